/- CreditFresh, by a walk. -/
import Derived.Test.YteglklcaaicjjaaW22
namespace Go.Proofs.Yteglklcaaicjjaa
open Go.RowKit Go.Maps

set_option maxRecDepth 100000 in
set_option maxHeartbeats 4000000 in
theorem CreditFresh_walk (most : Int) (ao : Option Addr) (n c : Nat) (A : Nat → ActV) (w : World) (_ : -9223372036854775808 ≤ most) (_ : most ≤ 9223372036854775807) (hA : Acts w ao n A) (hn : n ≤ 9223372036854775807) :
    Calls Try.prog 8 #[.int .i64 most, .slice ao n c] w fun e w' => e = .returned (.bool true) ∧ Below w.heap.size w w' := by
  by_cases hm : most < 1 ∨ 64 < most
  · go_enter Try.func8, Try.ntmps8
    go_wp2_with fail
    refine (played_bad most ao n c w hm).mono ?_
    rintro e w1 ⟨rfl, rfl⟩
    clear hm
    go_wp2_with fail
    refine (all_off w none (Or.inl rfl)).mono ?_
    rintro e w1 ⟨rfl, rfl⟩
    go_wp2_with fail
    go_loop [9] (fun s => s = .int .i64 0) (fun _ => 0)
    case atStart => rfl
    case round =>
      subst hrel
      go_wp2_with (first | (go_at_call 11; refine (works_any _).mono ?_; rintro e w2 ⟨rfl, hb⟩))
      go_ret
      exact ⟨rfl, hb⟩
  · go_enter Try.func8, Try.ntmps8
    go_wp2_with fail
    refine (played_good most ao n c A w hA hn (by omega) (by omega)).mono ?_
    rintro e w1 ⟨pb, mb, rb, next, S, rfl, he, _, hb1⟩
    have HE := Lib.hid he
    have HB1 := Lib.hid hb1
    have hlen64 : S.length ≤ 64 := by have h1 := he.win.len; have h2 := he.win.m2; omega
    clear hm he hb1 hA
    go_wp2_with fail
    refine (all_any w1 pb mb most next S HE.out.win).mono ?_
    rintro e w2 ⟨ro, rc, rfl, hrow, hb2⟩
    have HB2 := Lib.hid hb2
    have HROW := Lib.hid hrow
    clear hb2 hrow
    go_wp2_with fail
    go_loopw [9] (fun s wr => ∃ i : Nat, i ≤ S.length ∧ s = .int .i64 i ∧ Hid (∃ xs, Row w1.heap.size wr 29 1 ro S.length rc xs) ∧ Hid (Below w1.heap.size w1 wr)) (fun s _ => S.length - (intOf s).toNat)
    case atStart => exact ⟨0, Nat.zero_le _, rfl, ⟨_, HROW.out⟩, HB2.out⟩
    case round =>
      obtain ⟨i, hi, rfl, hrow, hb⟩ := hrel
      by_cases hlt : i < S.length
      · obtain ⟨xs, hr⟩ := hrow.out
        obtain ⟨g, rfl⟩ := hr.form (by omega)
        have hi3 : (i : Int) < (S.length : Int) := by omega
        have hxl := hr.len
        have hcell := hr.cell (j := i) (by omega)
        rw [List.getElem?_eq_getElem (by omega)] at hcell
        have hfz := hr.frozen i
        have hgl : g < wr.heap.size := hr.lt
        have HR2 : Hid (∃ xs, Row w1.heap.size (wr.setCell ⟨g, i, none⟩ (.int .u64 5)) 29 1 (some ⟨g, 0, none⟩) S.length rc xs) := ⟨_, hr.stored i (.int .u64 5)⟩
        have hset : Fr (fun j => j = g) wr (wr.setCell ⟨g, i, none⟩ (.int .u64 5)) := (Fr.refl (fun j => j = g) wr).setCell (p := ⟨g, i, none⟩) (fun _ => rfl) _
        have hgB : w1.heap.size ≤ g := hr.block.1
        have HB3 : Hid (Below w1.heap.size w1 (wr.setCell ⟨g, i, none⟩ (.int .u64 5))) := hb.out.trans (hset.below hb.out.size (fun k e => by rw [e]; exact hgB))
        obtain ⟨v0, hv0⟩ : ∃ v, wr.cell? ⟨g, i, none⟩ = some v := ⟨_, hcell⟩
        clear hcell hr hset hrow hxl
        go_wp2_with fail
        go_roundw
        case rel => exact ⟨i + 1, by omega, by go_num, HR2.out, HB3.out⟩
        case measure => simp [intOf]; omega
      · have hi3 : ¬ (i : Int) < (S.length : Int) := by omega
        have HE3 := Lib.hid (HE.out.below hb.out)
        obtain ⟨lo, lc, hrf⟩ := HE3.out.ref
        have cr := hrf.c1
        have HEd : Hid (Env w.heap.size wr.drew pb mb rb most next S next S) := HE3.out.below (Below.refl _ _).drew
        have HRd : Hid (RfAt w.heap.size wr.drew rb most next S lo lc) := hrf.below (Below.refl _ _).drew
        have hrl : rb < wr.drew.heap.size := HRd.out.blk.lt
        have HBd : Hid (Below w.heap.size w wr.drew) := (HB1.out.trans (hb.out.mono HB1.out.size)).drew
        clear hrf
        go_wp2_with fail
        go_region_held3 (fun w' => w'.cell? ⟨rb, 1, none⟩ = some (.slice lo S.length lc)) (go_keep) (first
          | (go_at_call 17
             refine (all_any wr.drew pb mb most next S HEd.out.win).mono ?_
             rintro e w4 ⟨qo, qc, rfl, hrow4, hb4⟩
             have cr4 : w4.cell? ⟨rb, 1, none⟩ = some (.slice lo S.length lc) := (hb4.cell (p := ⟨rb, 1, none⟩) hrl).trans cr
             have HROW4 := Lib.hid hrow4
             have HB4 := Lib.hid hb4
             clear hrow4 hb4)
          | (go_at_call 18
             refine (words_same _ qo lo S.length qc lc S HROW4.out.src (HRd.out.below HB4.out).row.src (by omega)).mono ?_
             rintro e w5 ⟨rfl, hb5⟩
             have cr5 : w5.cell? ⟨rb, 1, none⟩ = some (.slice lo S.length lc) := (hb5.cell (p := ⟨rb, 1, none⟩) (Nat.lt_of_lt_of_le hrl HB4.out.size)).trans cr4
             have HB5 := Lib.hid hb5
             clear hb5)
          | (go_at_call 11
             refine (works_any _).mono ?_
             rintro e w6 ⟨rfl, hb6⟩
             have cr6 : w6.cell? ⟨rb, 1, none⟩ = some (.slice lo S.length lc) := (hb6.cell (p := ⟨rb, 1, none⟩) (Nat.lt_of_lt_of_le (Nat.lt_of_lt_of_le hrl HB4.out.size) HB5.out.size)).trans cr5
             have HB6 := Lib.hid hb6
             clear hb6))
        go_wp2_with fail
        go_ret
        exact ⟨rfl, ((HBd.out.trans (HB4.out.mono HBd.out.size)).trans (HB5.out.mono (Nat.le_trans HBd.out.size HB4.out.size))).trans (HB6.out.mono (Nat.le_trans (Nat.le_trans HBd.out.size HB4.out.size) HB5.out.size))⟩
end Go.Proofs.Yteglklcaaicjjaa
