/- Contracts of works and act, by walks. -/
import Derived.Test.YtceomfdppbmebaaW8
namespace Go.Proofs.Ytceomfdppbmebaa
open Go.RowKit

def sA : Value := .string { data := #[97] }
def sB : Value := .string { data := #[98] }
def it1 : It := ⟨1, 1, 5, sA⟩
def it2 : It := ⟨2, 2, 5, sB⟩
theorem works_find : foundN (fun it => decide (it.conn = 2 ∧ it.id = 5)) ([] ++ [it1] ++ [it2]) = (2, 0) := by rfl
theorem works_take : foundX (.string { data := #[] }) (fun it => decide (it.n = 1)) ([] ++ [it1] ++ [it2]) = (sA, 0) := by rfl
theorem works_left : without (fun it => decide (it.n = 1)) ([] ++ [it1] ++ [it2]) = [it2] := by rfl
theorem works_none : foundX (.string { data := #[] }) (fun it => decide (it.n = 1)) [it2] = (.string { data := #[] }, 7) := by rfl

theorem works_any (w : World) : Calls Try.prog 11 #[] w fun e w' => e = .returned (.bool true) ∧ Below w.heap.size w w' := by
  go_enter Try.func11, Try.ntmps11
  go_wp2_with fail
  refine (new_anyS _).mono ?_
  rintro e w1 ⟨pb, rfl, hp1, hb1⟩
  have HB1 := Lib.hid hb1
  have HP1 := Lib.hid hp1
  clear hb1 hp1
  go_wp2_with fail
  refine (add_okS w.heap.size _ 1 5 pb 0 sA [] none 0 HP1.out HB1.out.size (by decide) (by decide) ⟨_, rfl⟩).mono ?_
  rintro e w2 ⟨ao2, c2, rfl, hp2, hf2⟩
  have HB2 : Hid (Below w.heap.size w w2) := HB1.out.trans (hf2.below HB1.out.size)
  have HP2 := Lib.hid hp2
  clear hf2 hp2
  go_wp2_with fail
  refine (add_okS w.heap.size _ 2 5 pb 1 sB _ _ _ HP2.out HB2.out.size (by decide) (by decide) ⟨_, rfl⟩).mono ?_
  rintro e w3 ⟨ao3, c3, rfl, hp3, hf3⟩
  have HB3 : Hid (Below w.heap.size w w3) := HB2.out.trans (hf3.below HB2.out.size)
  have HP3 := Lib.hid hp3
  clear hf3 hp3
  go_wp2_with fail
  refine (find_anyS w.heap.size _ 2 5 pb 2 _ _ _ HP3.out).mono ?_
  rw [show foundN (fun it => decide (it.conn = 2 ∧ it.id = 5)) ([] ++ [⟨0 + 1, 1, 5, sA⟩] ++ [⟨1 + 1, 2, 5, sB⟩]) = (2, 0) from works_find]
  rintro e w4 ⟨rfl, hb4⟩
  have HB4 : Hid (Below w.heap.size w w4) := HB3.out.trans (hb4.mono HB3.out.size)
  have HP4 := Lib.hid (HP3.out.below hb4)
  clear hb4
  go_wp2_with fail
  refine (take_anyS w.heap.size _ 1 pb 2 _ _ _ HP4.out).mono ?_
  rw [show foundX (.string { data := #[] }) (fun it => decide (it.n = 1)) ([] ++ [⟨0 + 1, 1, 5, sA⟩] ++ [⟨1 + 1, 2, 5, sB⟩]) = (sA, 0) from works_take, show without (fun it => decide (it.n = 1)) ([] ++ [⟨0 + 1, 1, 5, sA⟩] ++ [⟨1 + 1, 2, 5, sB⟩]) = [it2] from works_left]
  rintro e w5 ⟨ao5, c5, rfl, hp5, hf5⟩
  have HB5 : Hid (Below w.heap.size w w5) := HB4.out.trans (hf5.below HB4.out.size)
  have HP5 := Lib.hid hp5
  clear hf5 hp5
  go_wp2_with fail
  refine (take_anyS w.heap.size _ 1 pb 2 _ _ _ HP5.out).mono ?_
  rw [works_none]
  rintro e w6 ⟨ao6, c6, rfl, hp6, hf6⟩
  have HB6 : Hid (Below w.heap.size w w6) := HB5.out.trans (hf6.below HB5.out.size)
  clear hf6 hp6
  unfold sA
  go_wp2_with fail
  go_ret
  exact ⟨rfl, HB6.out⟩
end Go.Proofs.Ytceomfdppbmebaa
