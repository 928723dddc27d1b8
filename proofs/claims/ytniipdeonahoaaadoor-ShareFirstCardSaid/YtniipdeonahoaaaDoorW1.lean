/- Contracts of share.May and the reference's May, by walks. -/
import Derived.Test.YtniipdeonahoaaaDoorRows
import Derived.WalkKit
import Derived.WalkLawsBesides
import Derived.BigQuiet
import Derived.Deep.QuietTactic
namespace Go.Proofs.YtniipdeonahoaaaDoor
open Go.RowKit

def MayR (a s w o : Int) : Bool := if a < 1 ∨ 7 < a ∨ 7 < s ∨ w < 1 ∨ 5 < w ∨ 7 < o ∨ o % 4 = 3 then false else if 4 ≤ w ∧ (a / 2 % 2 = 0 ∨ o % 2 = 1) then false else decide (o < 4 ∨ 4 ≤ a)

theorem rb {a b : Bool} (h : a = b) : Ending.returned (.bool a) = .returned (.bool b) := by rw [h]

set_option maxHeartbeats 400000 in
theorem ref_may (a s y o : Int) (w : World) (ha : 0 ≤ a) (ha' : a ≤ 4294967295) (hs : 0 ≤ s) (hs' : s ≤ 4294967295) (hy : 0 ≤ y) (hy' : y ≤ 4294967295) (ho : 0 ≤ o) (ho' : o ≤ 4294967295) :
    Calls Tryd.prog 11 #[.int .u32 a, .int .u32 s, .int .u32 y, .int .u32 o] w fun e w' => e = .returned (.bool (MayR a s y o)) ∧ w = w' := by
  go_enter Tryd.func11, Tryd.ntmps11
  go_wp2
  all_goals go_ret
  all_goals refine ⟨rb ?_, rfl⟩
  all_goals ((try simp only [beq_iff_eq, beq_eq_false_iff_ne, ne_eq] at *); unfold MayR; split <;> (try split) <;> (try simp) <;> omega)


theorem and3 (x : Int) (h : 0 ≤ x) (h' : x ≤ 4294967295) : bits .and .u32 x 3 = x % 4 := by
  rw [u32_and x 3 h (by omega) (by omega) (by omega)]; show ((x.toNat &&& 3 : Nat) : Int) = _; rw [nat_mask2]; omega
theorem and1 (x : Int) (h : 0 ≤ x) (h' : x ≤ 4294967295) : bits .and .u32 x 1 = x % 2 := by
  rw [u32_and x 1 h (by omega) (by omega) (by omega)]; show ((x.toNat &&& 1 : Nat) : Int) = _; rw [nat_mask1]; omega
theorem and2 (x : Int) (h : 0 ≤ x) (h' : x ≤ 4294967295) : bits .and .u32 x 2 = x / 2 % 2 * 2 := by
  rw [u32_and x 2 h (by omega) (by omega) (by omega)]; show ((x.toNat &&& 2 ^ 1 : Nat) : Int) = _; rw [nat_bit]; omega
theorem and4 (x : Int) (h : 0 ≤ x) (h' : x ≤ 4294967295) : bits .and .u32 x 4 = x / 4 % 2 * 4 := by
  rw [u32_and x 4 h (by omega) (by omega) (by omega)]; show ((x.toNat &&& 2 ^ 2 : Nat) : Int) = _; rw [nat_bit]; omega
theorem or_small (a b : Nat) : a ||| b < 8 ↔ a < 8 ∧ b < 8 := by
  constructor
  · intro h; exact ⟨Nat.lt_of_le_of_lt Nat.left_le_or h, Nat.lt_of_le_of_lt Nat.right_le_or h⟩
  · rintro ⟨h1, h2⟩; exact Nat.or_lt_two_pow (n := 3) h1 h2
theorem not7 (a s o : Int) (ha : 0 ≤ a) (ha' : a ≤ 4294967295) (hs : 0 ≤ s) (hs' : s ≤ 4294967295) (ho : 0 ≤ o) (ho' : o ≤ 4294967295) :
    (bits .andNot .u32 (bits .or .u32 (bits .or .u32 a s) o) 7 != 0) = decide (7 < a ∨ 7 < s ∨ 7 < o) := by
  obtain ⟨a, rfl⟩ := Int.eq_ofNat_of_zero_le ha
  obtain ⟨s, rfl⟩ := Int.eq_ofNat_of_zero_le hs
  obtain ⟨o, rfl⟩ := Int.eq_ofNat_of_zero_le ho
  have h1 : a ||| s < 4294967296 := Nat.or_lt_two_pow (n := 32) (by omega) (by omega)
  have h2 : a ||| s ||| o < 4294967296 := Nat.or_lt_two_pow (n := 32) h1 (by omega)
  rw [u32_or_nat a s (by omega) (by omega), u32_or_nat _ o h1 (by omega)]
  have h3 := u32_andNot_nat (a ||| s ||| o) 7 h2 (by omega)
  have h4 : ((7 : Nat) : Int) = 7 := rfl
  rw [h4] at h3
  rw [h3]
  show ((((a ||| s ||| o) &&& 4294967288 : Nat) : Int) != 0) = _
  rw [nat_hi32_3, Nat.mod_eq_of_lt h2]
  have h5 := or_small (a ||| s) o
  have h6 := or_small a s
  generalize a ||| s ||| o = z at *
  generalize a ||| s = y at *
  by_cases hz : z < 8
  · have : z / 8 = 0 := by omega
    rw [this]
    simp
    omega
  · have : z / 8 * 8 ≠ 0 := by omega
    have hd : decide (7 < (a : Int) ∨ 7 < (s : Int) ∨ 7 < (o : Int)) = true := by
      simp; omega
    rw [hd]
    simp; omega

set_option maxHeartbeats 400000 in
theorem our_may (a s y o : Int) (w : World) (ha : 0 ≤ a) (ha' : a ≤ 4294967295) (hs : 0 ≤ s) (hs' : s ≤ 4294967295) (hy : 0 ≤ y) (hy' : y ≤ 4294967295) (ho : 0 ≤ o) (ho' : o ≤ 4294967295) :
    Calls Tryd.prog 10 #[.int .u32 a, .int .u32 s, .int .u32 y, .int .u32 o] w fun e w' => e = .returned (.bool (MayR a s y o)) ∧ w = w' := by
  have e1 := and3 o ho ho'
  have e2 := and1 o ho ho'
  have e3 := and2 a ha ha'
  have e4 := and4 a ha ha'
  have e5 := and4 o ho ho'
  have e6 := not7 a s o ha ha' hs hs' ho ho'
  by_cases hz : 7 < a ∨ 7 < s ∨ 7 < o
  · rw [decide_eq_true hz] at e6
    have H := hz
    clear hz
    have HH : Hid (7 < a ∨ 7 < s ∨ 7 < o) := H
    clear H
    go_enter Tryd.func10, Tryd.ntmps10
    go_wp2
    all_goals go_ret
    all_goals refine ⟨rb ?_, rfl⟩
    all_goals (have H := HH.out; unfold MayR; rw [if_pos]; omega)
  · rw [decide_eq_false hz] at e6
    have ha7 : a ≤ 7 := by omega
    have hs7 : s ≤ 7 := by omega
    have ho7 : o ≤ 7 := by omega
    clear hz ha' hs' ho'
    go_enter Tryd.func10, Tryd.ntmps10
    go_wp2
    all_goals go_ret
    all_goals refine ⟨rb ?_, rfl⟩
    all_goals ((try simp only [beq_iff_eq, beq_eq_false_iff_ne, bne_iff_ne, bne_eq_false_iff_eq, ne_eq] at *); unfold MayR; split <;> (try split) <;> (try simp) <;> first | omega | (rw [Bool.eq_iff_iff]; simp; omega))
end Go.Proofs.YtniipdeonahoaaaDoor
