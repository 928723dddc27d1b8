/- CreditThere, by a walk. -/
import Derived.Test.YteglklcaaicjjaaW22
import Derived.Test.YteglklcaaicjjaaW28
namespace Go.Proofs.Yteglklcaaicjjaa
open Go.RowKit Go.Maps

theorem elem_at {B : Nat} {w : World} {S : List Nat} {ro : Option Addr} {rc i x : Nat} (h : Row B w 29 1 ro S.length rc (un S)) (hi : S[i]? = some x) : ∃ g, ro = some ⟨g, 0, none⟩ ∧ B ≤ g ∧ g < w.heap.size ∧ w.cell? ⟨g, i, none⟩ = some (.int .u64 (x : Int)) := by
  have hl : i < S.length := (List.getElem?_eq_some_iff.1 hi).1
  obtain ⟨g, rfl⟩ := h.form (by omega)
  exact ⟨g, rfl, h.block.1, h.lt, (h.cell (j := i) (by omega)).trans (un_at hi)⟩

set_option maxRecDepth 100000 in
set_option maxHeartbeats 4000000 in
theorem CreditThere_walk (most : Int) (ao : Option Addr) (n c : Nat) (A : Nat → ActV) (other : Nat) (w : World) (_ : -9223372036854775808 ≤ most) (_ : most ≤ 9223372036854775807) (hA : Acts w ao n A) (hn : n ≤ 9223372036854775807) (hot : other < 18446744073709551616) :
    Calls Try.prog 6 #[.int .i64 most, .slice ao n c, .int .u64 (other : Int)] w fun e w' => e = .returned (.bool true) ∧ Below w.heap.size w w' := by
  by_cases hm : most < 1 ∨ 64 < most
  · go_enter Try.func6, Try.ntmps6
    go_wp2_with fail
    refine (played_bad most ao n c w hm).mono ?_
    rintro e w1 ⟨rfl, rfl⟩
    clear hm
    go_wp2_with fail
    refine (all_off w none (Or.inl rfl)).mono ?_
    rintro e w1 ⟨rfl, rfl⟩
    go_wp2_with fail
    go_loop [11, 12] (fun s t => s = .bool false ∧ t = .int .i64 0) (fun _ _ => 0)
    case atStart => exact ⟨rfl, rfl⟩
    case round =>
      obtain ⟨rfl, rfl⟩ := hrel
      go_wp2_with fail
      go_loop [6, 13, 14, 15] (fun s t _ _ => s = .bool false ∧ t = .int .i64 0) (fun _ _ _ _ => 0)
      case atStart => exact ⟨rfl, rfl⟩
      case round =>
        obtain ⟨rfl, rfl⟩ := hrel
        go_wp2_with (first | (go_at_call 12; refine (has_off _ none (Or.inl rfl)).mono ?_; rintro e w2 ⟨rfl, rfl⟩) | (go_at_call 11; refine (works_any _).mono ?_; rintro e w2 ⟨rfl, hb⟩))
        go_ret
        exact ⟨rfl, hb⟩
  · go_enter Try.func6, Try.ntmps6
    go_wp2_with fail
    refine (played_good most ao n c A w hA hn (by omega) (by omega)).mono ?_
    rintro e w1 ⟨pb, mb, rb, next, S, rfl, he, hnx, hb1⟩
    have HE := Lib.hid he
    have HB1 := Lib.hid hb1
    have hlen64 : S.length ≤ 64 := by have h1 := he.win.len; have h2 := he.win.m2; omega
    have HLT := Lib.hid he.win.lt
    have HASC := Lib.hid he.win.asc
    have HFAR : Hid (∀ (i x : Nat), S[i]? = some x → x ≤ far) := fun i x hi => by
      have := he.win.lt x (List.mem_of_getElem? hi)
      unfold far; omega
    have hsz1 := hb1.size
    clear hm he hb1 hA
    go_wp2_with fail
    refine (all_any w1 pb mb most next S HE.out.win).mono ?_
    rintro e w2 ⟨ro, rc, rfl, hrow, hb2⟩
    have HB2 := Lib.hid hb2
    have HROW := Lib.hid hrow
    clear hb2 hrow
    go_wp2_with fail
    go_loop [11, 12] (fun s t => ∃ (i : Nat) (bl : Bool), i ≤ S.length ∧ s = .bool bl ∧ t = .int .i64 i ∧ Hid (bl = true ↔ other ∈ S.take i)) (fun _ s => S.length - (intOf s).toNat)
    case atStart => exact ⟨0, false, Nat.zero_le _, rfl, rfl, (show Hid (false = true ↔ other ∈ S.take 0) from ⟨fun h => Bool.noConfusion h, fun h => by simp at h⟩)⟩
    case round =>
      obtain ⟨i, bl, hi, rfl, rfl, hin⟩ := hrel
      by_cases hlt : i < S.length
      · obtain ⟨x, hx⟩ : ∃ x, S[i]? = some x := ⟨_, List.getElem?_eq_getElem hlt⟩
        have hts := there_step (other := other) hx
        have hi1 : (0 : Int) ≤ (i : Int) := by omega
        have hi3 : (i : Int) < (S.length : Int) := by omega
        obtain ⟨g, rfl, hBg, hgl, hcell⟩ := elem_at HROW.out hx
        cases bl
        · by_cases hxo : x = other
          · have hin2 : Hid (true = true ↔ other ∈ S.take (i + 1)) := ⟨fun _ => hts.2 (Or.inr hxo), fun _ => rfl⟩
            subst hxo
            clear hin hts hx
            go_wp2_with fail
            go_round
            case rel => exact ⟨i + 1, true, by omega, rfl, by go_num, hin2.out⟩
            case measure => simp [intOf]; omega
          · have hin2 : Hid (false = true ↔ other ∈ S.take (i + 1)) := ⟨fun h => Bool.noConfusion h, fun h => (hts.1 h).elim (fun h => hin.out.2 h) (fun h => absurd h hxo)⟩
            have hxi : ((x : Int) == (other : Int)) = false := by simp; omega
            clear hin hts hx
            go_wp2_with fail
            go_round
            case rel => exact ⟨i + 1, false, by omega, rfl, by go_num, hin2.out⟩
            case measure => simp [intOf]; omega
        · have hin2 : Hid (true = true ↔ other ∈ S.take (i + 1)) := ⟨fun _ => hts.2 (Or.inl (hin.out.1 rfl)), fun _ => rfl⟩
          clear hin hts hx hcell
          go_wp2_with fail
          go_round
          case rel => exact ⟨i + 1, true, by omega, rfl, by go_num, hin2.out⟩
          case measure => simp [intOf]; omega
      · have hiS : i = S.length := by omega
        have hi3 : ¬ (i : Int) < (S.length : Int) := by omega
        have hfin : bl = true ↔ other ∈ S := by
          have := hin.out
          rw [hiS, List.take_length] at this
          exact this
        have HFIN := Lib.hid hfin
        clear hin hfin
        go_wp2_with fail
        have hsz2 := HB2.out.size
        have HW2 : Hid (Win w2 pb mb most next S) := (HE.out.below HB2.out).win
        have hp1 : pb < w1.heap.size := HE.out.win.blk.lt
        have hm1 : mb < w1.heap.size := HE.out.win.map.lt
        have hp0 := HE.out.lp
        have hm0 := HE.out.lm
        have HB12 : Hid (Below w.heap.size w w2) := HB1.out.trans (HB2.out.mono HB1.out.size)
        obtain ⟨to1, to2⟩ := take_other (S := S) (other := other) HLT.out hnx
        have HTO2 := Lib.hid to2
        have hres : ((takeE S other 1 == 0) == bl) = true := by
          rw [to1]
          cases bl
          · rw [if_neg (fun h => Bool.noConfusion (HFIN.out.2 h))]; rfl
          · rw [if_pos (HFIN.out.1 rfl)]; rfl
        clear to1 to2 HFIN HLT HE HB1 HB2
        refine (take_any _ pb mb most next S other 1 HW2.out hot (by omega) (by omega)).mono ?_
        rintro e w3 ⟨rfl, hw3, hf3⟩
        rw [HTO2.out] at hw3
        have HW3 := Lib.hid hw3
        have HB3 : Hid (Below w.heap.size w w3) := HB12.out.trans (hf3.below (Nat.le_trans hsz1 hsz2) (fun j hj => by rcases hj with e | e <;> omega))
        have HROW3 : Hid (Row w1.heap.size w3 29 1 ro S.length rc (un S)) := HROW.out.fr hf3 (fun k hk h => by
          obtain ⟨a, rfl, rfl⟩ := hk
          have := HROW.out.block.1
          rcases h with e | e <;> omega)
        have hsz3 : w1.heap.size ≤ w3.heap.size := Nat.le_trans hsz2 hf3.size
        generalize takeE S other 1 = er at *
        clear hw3 hf3 HW2 HB12 HTO2 HROW hsz2
        go_wp2_with fail
        have HKEEP : Hid (∀ wa wb : World, Row w1.heap.size wa 29 1 ro S.length rc (un S) → Fr (Of pb mb) wa wb → Row w1.heap.size wb 29 1 ro S.length rc (un S)) := fun wa wb hr hf => hr.fr hf (fun k hk h => by
          obtain ⟨a, rfl, rfl⟩ := hk
          have := hr.block.1
          rcases h with e | e <;> omega)
        go_loopw [6, 13, 14, 15] (fun s t _ _ wr => ∃ i : Nat, i ≤ S.length ∧ s = .bool false ∧ t = .int .i64 i ∧ Hid (Win wr pb mb most next (rest S other i)) ∧ Hid (Row w1.heap.size wr 29 1 ro S.length rc (un S)) ∧ Hid (Below w.heap.size w wr) ∧ w1.heap.size ≤ wr.heap.size) (fun _ t _ _ _ => S.length - (intOf t).toNat)
        case atStart => exact ⟨0, Nat.zero_le _, rfl, rfl, HW3.out, HROW3.out, HB3.out, hsz3⟩
        case round =>
          clear HW3 HROW3 HB3 hsz3 hres
          obtain ⟨i, hi, rfl, rfl, hw, HROWr, hb, hszr⟩ := hrel
          by_cases hlt : i < S.length
          · obtain ⟨x, hx⟩ : ∃ x, S[i]? = some x := ⟨_, List.getElem?_eq_getElem hlt⟩
            have hi1 : (0 : Int) ≤ (i : Int) := by omega
            have hi3 : (i : Int) < (S.length : Int) := by omega
            obtain ⟨g, rfl, hBg, hgl, hcell⟩ := elem_at HROWr.out hx
            have hx64 : x < 18446744073709551616 := by have := HFAR.out i x hx; unfold far at this; omega
            obtain ⟨t1, t2, t3, t4⟩ := rest_take (other := other) HASC.out hx (HFAR.out i x hx)
            obtain ⟨ee, hee⟩ : ∃ ee : Int, (if x = other then 17 else 0) = ee := ⟨_, rfl⟩
            rw [hee] at t1
            have HT1 := Lib.hid t1
            have HT2 := Lib.hid t2
            have HT3 := Lib.hid t3
            have HT4 := Lib.hid t4
            have HEE := Lib.hid hee
            clear t1 t2 t3 t4 hee
            go_wp2_with fail
            refine (take_any _ pb mb most next (rest S other i) x 1 hw.out hx64 (by omega) (by omega)).mono ?_
            rintro e w4 ⟨he, hw4, hf4⟩
            rw [HT1.out] at he
            rw [HT2.out] at hw4
            subst he
            have HW4 := Lib.hid hw4
            have HB4 : Hid (Below w.heap.size w w4) := hb.out.trans (hf4.below (Nat.le_trans hsz1 hszr) (fun j hj => by rcases hj with e | e <;> omega))
            have HROW4 := Lib.hid (HKEEP.out _ _ HROWr.out hf4)
            have hsz4 : w1.heap.size ≤ w4.heap.size := Nat.le_trans hszr hf4.size
            obtain ⟨_, eg, _, _, hcell4⟩ := elem_at HROW4.out hx
            cases eg
            clear hw4 hf4 hw hb hcell HROWr
            go_wp2_with fail
            refine (take_any _ pb mb most next (rest S other (i + 1)) x 1 HW4.out hx64 (by omega) (by omega)).mono ?_
            rintro e w5 ⟨he, hw5, hf5⟩
            rw [HT3.out] at he
            rw [HT4.out] at hw5
            subst he
            have HW5 := Lib.hid hw5
            have HB5 : Hid (Below w.heap.size w w5) := HB4.out.trans (hf5.below (Nat.le_trans hsz1 hsz4) (fun j hj => by rcases hj with e | e <;> omega))
            have HROW5 := Lib.hid (HKEEP.out _ _ HROW4.out hf5)
            have hsz5 : w1.heap.size ≤ w5.heap.size := Nat.le_trans hsz4 hf5.size
            obtain ⟨_, eg, _, _, hcell5⟩ := elem_at HROW5.out hx
            cases eg
            clear hw5 hf5 HW4 HB4 HROW4 hcell4
            by_cases hxo : x = other
            · have hee : ee = 17 := by have := HEE.out; rw [if_pos hxo] at this; exact this.symm
              subst hxo hee
              clear HEE HT1 HT2 HT3 HT4
              rcases Nat.eq_zero_or_pos i with h0 | h0
              · subst h0
                clear hx
                go_wp2_with fail
                go_quiet (fail)
                go_wp2_with fail
                go_roundw
                case rel => exact ⟨1, by omega, rfl, by go_num, Win.drewN HW5.out _, Row.drewN HROW5.out _, below_drewN HB5.out _, hsz5⟩
                case measure => simp [intOf]; omega
              · obtain ⟨j, hj⟩ : ∃ j : Nat, i = j + 1 := ⟨i - 1, by omega⟩
                obtain ⟨y, hy⟩ : ∃ y, S[j]? = some y := ⟨_, List.getElem?_eq_getElem (by omega)⟩
                have hyx := rises HASC.out hy (hj ▸ hx)
                obtain ⟨_, eg, _, _, hcellj⟩ := elem_at HROW5.out hy
                cases eg
                have hi0 : (0 : Int) < (i : Int) := by omega
                have hij : IntKind.i64.wrap ((i : Int) - 1) = (j : Int) := by rw [IntWalk.i64_in _ (by omega)]; omega
                have hj1 : (0 : Int) ≤ (j : Int) := by omega
                have hj3 : (j : Int) < (S.length : Int) := by omega
                have hd : decide ((x : Int) ≤ (y : Int)) = false := by simp; omega
                have hd2 : ¬ (x : Int) ≤ (y : Int) := by omega
                clear hx hy hyx hj
                go_wp2_with fail
                go_quiet (fail)
                go_wp2_with fail
                go_roundw
                case rel => exact ⟨i + 1, by omega, rfl, by go_num, Win.drewN HW5.out _, Row.drewN HROW5.out _, below_drewN HB5.out _, hsz5⟩
                case measure => simp [intOf]; omega
            · have hee : ee = 0 := by have := HEE.out; rw [if_neg hxo] at this; exact this.symm
              have hxi : ((x : Int) == (other : Int)) = false := by simp; omega
              have hxd : ¬ (x : Int) = (other : Int) := by omega
              subst hee
              clear hxo
              clear HEE HT1 HT2 HT3 HT4
              rcases Nat.eq_zero_or_pos i with h0 | h0
              · subst h0
                clear hx
                go_wp2_with fail
                go_quiet (fail)
                go_wp2_with fail
                go_roundw
                case rel => exact ⟨1, by omega, rfl, by go_num, Win.drewN HW5.out _, Row.drewN HROW5.out _, below_drewN HB5.out _, hsz5⟩
                case measure => simp [intOf]; omega
              · obtain ⟨j, hj⟩ : ∃ j : Nat, i = j + 1 := ⟨i - 1, by omega⟩
                obtain ⟨y, hy⟩ : ∃ y, S[j]? = some y := ⟨_, List.getElem?_eq_getElem (by omega)⟩
                have hyx := rises HASC.out hy (hj ▸ hx)
                obtain ⟨_, eg, _, _, hcellj⟩ := elem_at HROW5.out hy
                cases eg
                have hi0 : (0 : Int) < (i : Int) := by omega
                have hij : IntKind.i64.wrap ((i : Int) - 1) = (j : Int) := by rw [IntWalk.i64_in _ (by omega)]; omega
                have hj1 : (0 : Int) ≤ (j : Int) := by omega
                have hj3 : (j : Int) < (S.length : Int) := by omega
                have hd : decide ((x : Int) ≤ (y : Int)) = false := by simp; omega
                have hd2 : ¬ (x : Int) ≤ (y : Int) := by omega
                clear hx hy hyx hj
                go_wp2_with fail
                go_quiet (fail)
                go_wp2_with fail
                go_roundw
                case rel => exact ⟨i + 1, by omega, rfl, by go_num, Win.drewN HW5.out _, Row.drewN HROW5.out _, below_drewN HB5.out _, hsz5⟩
                case measure => simp [intOf]; omega
          · have hiS : i = S.length := by omega
            have hi3 : ¬ (i : Int) < (S.length : Int) := by omega
            have HWE : Hid (Win wr pb mb most next []) := by
              have := hw.out
              rw [hiS, rest_end] at this
              exact this
            clear hw
            go_wp2_with (first | (go_at_call 12; refine (has_any _ pb mb most next [] HWE.out).mono ?_; rintro e w5 ⟨rfl, rfl⟩) | (go_at_call 11; refine (works_any _).mono ?_; rintro e w6 ⟨rfl, hb6⟩))
            go_ret
            exact ⟨rfl, hb.out.trans (hb6.mono hb.out.size)⟩
end Go.Proofs.Yteglklcaaicjjaa
