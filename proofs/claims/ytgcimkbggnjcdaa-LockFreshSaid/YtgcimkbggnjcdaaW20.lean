/- Contract of played, by a walk. -/
import Derived.Test.YtgcimkbggnjcdaaW19
namespace Go.Proofs.Ytgcimkbggnjcdaa
open Go.RowKit Go.WideShapes

def PlayedPost (B : Nat) (w : World) (e : Ending) (w' : World) : Prop :=
  ∃ pb rb S ao cap bo d, e = .returned (.tuple #[.pointer (some ⟨pb, 0, none⟩), .pointer (some ⟨rb, 0, none⟩), .bool true]) ∧ Bo B w' pb S ao cap rb S bo d ∧ Inv S ∧ Below B w w'

set_option maxHeartbeats 2000000 in
theorem played_any (w : World) (ao : Option Addr) (n c : Nat) (A : Nat → ActV) (hA : Acts w ao n A) (_ : n ≤ 9223372036854775807) :
    Calls Try.prog 11 #[.slice ao n c] w (PlayedPost w.heap.size w) := by
  have HA := Lib.hid hA
  clear hA
  go_enter Try.func11, Try.ntmps11
  go_wp2_with fail
  refine (new_any w).mono ?_
  rintro e w1 ⟨pb, rfl, hp1, hb1⟩
  have hal : Below w1.heap.size w1 (w1.alloc (.cells #[.slice none 0 0] 44)) := (Below.refl _ _).alloc (Nat.le_refl _) _
  have HB2 : Hid (Below w.heap.size w (w1.alloc (.cells #[.slice none 0 0] 44))) := hb1.alloc hb1.size _
  have HH : Hid (Bo w.heap.size (w1.alloc (.cells #[.slice none 0 0] 44)) pb [] none 0 w1.heap.size [] none 0) :=
    ⟨hp1.below hal, ⟨hb1.size, Blk.new _ _ _, Row.nil _ _ _ _, by simp, by simp⟩, fun k ⟨a, ha, _⟩ => by cases ha⟩
  clear hb1 hp1 hal
  go_wp2_with fail
  generalize w1.alloc (.cells #[.slice none 0 0] 44) = w2 at *
  generalize w1.heap.size = rb at *
  go_loopw [2, 3, 4, 7] (fun _ _ _ s wr => ∃ (k : Nat) (S : List Lk) (qo : Option Addr) (qc : Nat) (bo : Option Addr) (d : Nat), k ≤ n ∧ k ≤ 40 ∧ s = .int .i64 k ∧ Hid (Bo w.heap.size wr pb S qo qc rb S bo d) ∧ Hid (Inv S) ∧ Hid (Below w.heap.size w wr)) (fun _ _ _ s _ => n - (intOf s).toNat)
  case atStart => exact ⟨0, [], none, 0, none, 0, Nat.zero_le _, Nat.zero_le _, rfl, HH.out, List.Pairwise.nil, HB2.out⟩
  case round =>
    obtain ⟨k, S, qo, qc, bo, d, hk, hk2, rfl, hh, hinv, hb⟩ := hrel
    by_cases hlt : k < n ∧ k < 40
    · obtain ⟨hl1, hl2⟩ := hlt
      obtain ⟨b, o, rfl, hbl, ha0, hL, hln⟩ := HA.out k hl1
      have HL : Hid (∀ W, Below w.heap.size wr.drew W → Lks W (A k).lo (A k).ln (A k).L) := fun W hW => hL.below (Nat.le_refl _) ((hb.out.drew).trans hW)
      have ha := ha0.below hb.out hbl
      obtain ⟨k0, k1, k2, k3, k4⟩ := ha
      clear ha0 hL
      generalize A k = q at *
      obtain ⟨dd, op, lo, ln, lc, aa, an, L⟩ := q
      dsimp only at k0 k1 k2 k3 k4 HL hln
      have hHd : Hid (Bo w.heap.size wr.drew pb S qo qc rb S bo d) := hh.out.below (Below.refl _ _).drew
      have hBd : w.heap.size ≤ wr.drew.heap.size := hb.out.size
      have hi1 : (0 : Int) ≤ (k : Int) := by omega
      have hi2 : (k : Int) < (n : Int) := by omega
      go_wp2_with fail
      first
      | (go_region_with (first
          | (go_at_call 25
             refine (act_any w.heap.size wr.drew pb S qo qc rb bo d dd op lo ln lc aa an L hHd.out hBd HL.out hln).mono ?_
             rintro e w3 ⟨rfl, S3, qo3, qc3, bo3, d3, hinv3, hh3, hb3⟩
             have HH3 := Lib.hid hh3
             have HI3 : Hid (Inv S3) := hinv3 hinv.out
             have HB3 : Hid (Below w.heap.size w w3) := hb.out.drew.trans hb3
             have hS3 := hh3.t.len
             have k0a := (hb3.cell (p := ⟨b, o + k * 5, none⟩) hbl).trans k0
             have k1a := (hb3.cell (p := ⟨b, o + k * 5 + 1, none⟩) hbl).trans k1
             have k2a := (hb3.cell (p := ⟨b, o + k * 5 + 2, none⟩) hbl).trans k2
             have k3a := (hb3.cell (p := ⟨b, o + k * 5 + 3, none⟩) hbl).trans k3
             have k4a := (hb3.cell (p := ⟨b, o + k * 5 + 4, none⟩) hbl).trans k4
             have r0 := hh3.r.c0
             clear hinv3 hh3 hb3)
          | (go_at_call 13
             refine (all_any w.heap.size w3 pb S3 qo3 qc3 HH3.out.t).mono ?_
             rintro e w4 ⟨ro, rc, rfl, hr4, hb4⟩
             have HR4 := Lib.hid hr4
             have HH4 := Lib.hid (HH3.out.below hb4)
             have HB4 : Hid (Below w.heap.size w w4) := HB3.out.trans (hb4.mono HB3.out.size)
             have k0b := (HB4.out.cell (p := ⟨b, o + k * 5, none⟩) hbl).trans ((hb.out.cell (p := ⟨b, o + k * 5, none⟩) hbl).symm.trans k0)
             have k1b := (HB4.out.cell (p := ⟨b, o + k * 5 + 1, none⟩) hbl).trans ((hb.out.cell (p := ⟨b, o + k * 5 + 1, none⟩) hbl).symm.trans k1)
             have k2b := (HB4.out.cell (p := ⟨b, o + k * 5 + 2, none⟩) hbl).trans ((hb.out.cell (p := ⟨b, o + k * 5 + 2, none⟩) hbl).symm.trans k2)
             have k3b := (HB4.out.cell (p := ⟨b, o + k * 5 + 3, none⟩) hbl).trans ((hb.out.cell (p := ⟨b, o + k * 5 + 3, none⟩) hbl).symm.trans k3)
             have k4b := (HB4.out.cell (p := ⟨b, o + k * 5 + 4, none⟩) hbl).trans ((hb.out.cell (p := ⟨b, o + k * 5 + 4, none⟩) hbl).symm.trans k4)
             have r1 := HH4.out.r.c0
             clear hr4 hb4)
          | (go_at_call 17
             refine (locks_same _ _ w4 ro bo3 rc d3 S3 HR4.out HH4.out.r.row (by omega)).mono ?_
             rintro e w5 ⟨rfl, hb5⟩
             have HH5 := Lib.hid (HH4.out.below hb5)
             have HB5 : Hid (Below w.heap.size w w5) := HB4.out.trans (hb5.mono HB4.out.size)
             have k0c := (HB5.out.cell (p := ⟨b, o + k * 5, none⟩) hbl).trans ((hb.out.cell (p := ⟨b, o + k * 5, none⟩) hbl).symm.trans k0)
             have k1c := (HB5.out.cell (p := ⟨b, o + k * 5 + 1, none⟩) hbl).trans ((hb.out.cell (p := ⟨b, o + k * 5 + 1, none⟩) hbl).symm.trans k1)
             have k2c := (HB5.out.cell (p := ⟨b, o + k * 5 + 2, none⟩) hbl).trans ((hb.out.cell (p := ⟨b, o + k * 5 + 2, none⟩) hbl).symm.trans k2)
             have k3c := (HB5.out.cell (p := ⟨b, o + k * 5 + 3, none⟩) hbl).trans ((hb.out.cell (p := ⟨b, o + k * 5 + 3, none⟩) hbl).symm.trans k3)
             have k4c := (HB5.out.cell (p := ⟨b, o + k * 5 + 4, none⟩) hbl).trans ((hb.out.cell (p := ⟨b, o + k * 5 + 4, none⟩) hbl).symm.trans k4)
             clear hb5)))
      | (fail "x")
      all_goals
        go_wp2_with fail
        go_roundw
        case rel => exact ⟨k + 1, S3, _, _, _, _, by omega, by omega, by go_num, HH5.out, HI3.out, HB5.out⟩
        case measure => simp [intOf]; omega
    · by_cases hend : k < n
      all_goals
        have hend2 : k < n → ¬ k < 40 := by omega
        clear hlt
        first | (have hend3 := hend2 hend; clear hend2) | clear hend2
        go_wp2_with fail
        go_ret3
        exact ⟨pb, rb, S, _, _, _, _, rfl, hh.out, hinv.out, hb.out⟩
end Go.Proofs.Ytgcimkbggnjcdaa
