/- Contracts of meets, the closures, IndexFunc, ContainsFunc, had (both), by walks. -/
import Derived.Test.YtgcimkbggnjcdaaW1
namespace Go.Proofs.Ytgcimkbggnjcdaa
open Go.RowKit

theorem meet_any (w : World) (a n b m : Nat) (h0 : a + n ≤ M) (h0' : b + m ≤ M) :
    Calls Try.prog 33 #[.int .u64 (a : Int), .int .u64 (n : Int), .int .u64 (b : Int), .int .u64 (m : Int)] w fun e w' => e = .returned (.bool (meetB a n b m)) ∧ w = w' := by
  obtain ⟨r, hr⟩ : ∃ r, meetB a n b m = r := ⟨_, rfl⟩
  rw [hr]
  unfold M at h0 h0'
  try unfold val
  have w1 : IntKind.u64.wrap ((a : Int) + (n : Int)) = (a : Int) + (n : Int) := by rw [IntWalk.u64_in _ (by omega)]
  have w2 : IntKind.u64.wrap ((b : Int) + (m : Int)) = (b : Int) + (m : Int) := by rw [IntWalk.u64_in _ (by omega)]
  by_cases h1 : 0 < n
  rotate_left
  · have e1 : ¬ (0 : Int) < (n : Int) := by omega
    have HR : Hid (false = r) := by show _ = _; rw [← hr]; unfold meetB; simp [h1]
    clear hr h1
    go_enter Try.func33, Try.ntmps33
    go_wp2
    go_ret
    exact ⟨congrArg (fun q => Ending.returned (.bool q)) HR.out, rfl⟩
  have e1 : (0 : Int) < (n : Int) := by omega
  by_cases h2 : 0 < m
  rotate_left
  · have e2 : ¬ (0 : Int) < (m : Int) := by omega
    have HR : Hid (false = r) := by show _ = _; rw [← hr]; unfold meetB; simp [h1, h2]
    clear hr h1 h2
    go_enter Try.func33, Try.ntmps33
    go_wp2
    go_ret
    exact ⟨congrArg (fun q => Ending.returned (.bool q)) HR.out, rfl⟩
  have e2 : (0 : Int) < (m : Int) := by omega
  by_cases h3 : a < b + m
  rotate_left
  · have e3 : ¬ (a : Int) < (b : Int) + (m : Int) := by omega
    have HR : Hid (false = r) := by show _ = _; rw [← hr]; unfold meetB; simp [h1, h2, h3]
    clear hr h1 h2 h3
    go_enter Try.func33, Try.ntmps33
    go_wp2
    go_ret
    exact ⟨congrArg (fun q => Ending.returned (.bool q)) HR.out, rfl⟩
  have e3 : (a : Int) < (b : Int) + (m : Int) := by omega
  by_cases h4 : b < a + n
  rotate_left
  · have e4 : ¬ (b : Int) < (a : Int) + (n : Int) := by omega
    have HR : Hid (false = r) := by show _ = _; rw [← hr]; unfold meetB; simp [h1, h2, h3, h4]
    clear hr h1 h2 h3 h4
    go_enter Try.func33, Try.ntmps33
    go_wp2
    go_ret
    exact ⟨congrArg (fun q => Ending.returned (.bool q)) HR.out, rfl⟩
  have e4 : (b : Int) < (a : Int) + (n : Int) := by omega
  have HR : Hid (true = r) := by show _ = _; rw [← hr]; unfold meetB; simp [h1, h2, h3, h4]
  clear hr h1 h2 h3 h4
  go_enter Try.func33, Try.ntmps33
  go_wp2
  go_ret
  exact ⟨congrArg (fun q => Ending.returned (.bool q)) HR.out, rfl⟩

theorem meets_any (w : World) (o : Int) (a n mode b m : Nat) (h0 : a + n ≤ M) (h0' : b + m ≤ M) :
    Calls Try.prog 28 #[val ⟨o, a, n, mode⟩, .int .u64 (b : Int), .int .u64 (m : Int)] w fun e w' => e = .returned (.bool (meetB a n b m)) ∧ Below w.heap.size w w' := by
  obtain ⟨r, hr⟩ : ∃ r, meetB a n b m = r := ⟨_, rfl⟩
  rw [hr]
  unfold M at h0 h0'
  try unfold val
  have w1 : IntKind.u64.wrap ((a : Int) + (n : Int)) = (a : Int) + (n : Int) := by rw [IntWalk.u64_in _ (by omega)]
  have w2 : IntKind.u64.wrap ((b : Int) + (m : Int)) = (b : Int) + (m : Int) := by rw [IntWalk.u64_in _ (by omega)]
  by_cases h1 : 0 < n
  rotate_left
  · have e1 : ¬ (0 : Int) < (n : Int) := by omega
    have HR : Hid (false = r) := by show _ = _; rw [← hr]; unfold meetB; simp [h1]
    clear hr h1
    go_enter Try.func28, Try.ntmps28
    go_wp2
    go_ret
    exact ⟨congrArg (fun q => Ending.returned (.bool q)) HR.out, (Below.refl _ _).alloc (Nat.le_refl _) _⟩
  have e1 : (0 : Int) < (n : Int) := by omega
  by_cases h2 : 0 < m
  rotate_left
  · have e2 : ¬ (0 : Int) < (m : Int) := by omega
    have HR : Hid (false = r) := by show _ = _; rw [← hr]; unfold meetB; simp [h1, h2]
    clear hr h1 h2
    go_enter Try.func28, Try.ntmps28
    go_wp2
    go_ret
    exact ⟨congrArg (fun q => Ending.returned (.bool q)) HR.out, (Below.refl _ _).alloc (Nat.le_refl _) _⟩
  have e2 : (0 : Int) < (m : Int) := by omega
  by_cases h3 : a < b + m
  rotate_left
  · have e3 : ¬ (a : Int) < (b : Int) + (m : Int) := by omega
    have HR : Hid (false = r) := by show _ = _; rw [← hr]; unfold meetB; simp [h1, h2, h3]
    clear hr h1 h2 h3
    go_enter Try.func28, Try.ntmps28
    go_wp2
    go_ret
    exact ⟨congrArg (fun q => Ending.returned (.bool q)) HR.out, (Below.refl _ _).alloc (Nat.le_refl _) _⟩
  have e3 : (a : Int) < (b : Int) + (m : Int) := by omega
  by_cases h4 : b < a + n
  rotate_left
  · have e4 : ¬ (b : Int) < (a : Int) + (n : Int) := by omega
    have HR : Hid (false = r) := by show _ = _; rw [← hr]; unfold meetB; simp [h1, h2, h3, h4]
    clear hr h1 h2 h3 h4
    go_enter Try.func28, Try.ntmps28
    go_wp2
    go_ret
    exact ⟨congrArg (fun q => Ending.returned (.bool q)) HR.out, (Below.refl _ _).alloc (Nat.le_refl _) _⟩
  have e4 : (b : Int) < (a : Int) + (n : Int) := by omega
  have HR : Hid (true = r) := by show _ = _; rw [← hr]; unfold meetB; simp [h1, h2, h3, h4]
  clear hr h1 h2 h3 h4
  go_enter Try.func28, Try.ntmps28
  go_wp2
  go_ret
  exact ⟨congrArg (fun q => Ending.returned (.bool q)) HR.out, (Below.refl _ _).alloc (Nat.le_refl _) _⟩

end Go.Proofs.Ytgcimkbggnjcdaa
