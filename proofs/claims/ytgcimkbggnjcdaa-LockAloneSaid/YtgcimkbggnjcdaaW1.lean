/- A lock, a table's row; contracts of meets, may, the closures, IndexFunc, ContainsFunc, had, by walks. -/
import Derived.Test.YtgcimkbggnjcdaaS
import Derived.IntWalk
namespace Go.Proofs.Ytgcimkbggnjcdaa
open Go.RowKit

/-- A lock. -/
structure Lk where
  op : Int
  a : Nat
  n : Nat
  mode : Nat
deriving Inhabited
def cells (x : Lk) : List Value := [.int .i64 x.op, .int .u64 (x.a : Int), .int .u64 (x.n : Int), .int .u16 (x.mode : Int)]
theorem cells_len (x : Lk) : (cells x).length = 4 := rfl
def flat (S : List Lk) : List Value := S.flatMap cells
theorem flat_length (S : List Lk) : (flat S).length = S.length * 4 := flat_len cells 4 cells_len S
theorem flat_at {S : List Lk} {i : Nat} {x : Lk} (h : S[i]? = some x) {j : Nat} (hj : j < 4) : (flat S)[i * 4 + j]? = (cells x)[j]? := flat_get cells 4 cells_len S i j x h hj
/-- The value of a lock. -/
def val (x : Lk) : Value := .agg #[.int .i64 x.op, .int .u64 (x.a : Int), .int .u64 (x.n : Int), .int .u16 (x.mode : Int)]
theorem row_cells {B : Nat} {w : World} {g n cap : Nat} {S : List Lk} (h : Row B w 34 4 (some ⟨g, 0, none⟩) n cap (flat S)) {i : Nat} {x : Lk} (hi : S[i]? = some x) :
    w.cell? ⟨g, i * 4, none⟩ = some (.int .i64 x.op) ∧ w.cell? ⟨g, i * 4 + 1, none⟩ = some (.int .u64 (x.a : Int)) ∧ w.cell? ⟨g, i * 4 + 2, none⟩ = some (.int .u64 (x.n : Int)) ∧ w.cell? ⟨g, i * 4 + 3, none⟩ = some (.int .u16 (x.mode : Int)) := by
  have hl := h.len
  rw [flat_length] at hl
  have hil : i < S.length := (List.getElem?_eq_some_iff.1 hi).1
  have hc : ∀ j, j < 4 → w.cell? ⟨g, i * 4 + j, none⟩ = (cells x)[j]? := fun j hj => (h.cell (by omega)).trans (flat_at hi hj)
  exact ⟨hc 0 (by omega), hc 1 (by omega), hc 2 (by omega), hc 3 (by omega)⟩

/-- Above it no part ends. -/
def M : Nat := 4611686018427387904
/-- May a part be? -/
def mayB (a n : Nat) : Bool := decide (a ≤ M ∧ n ≤ M - a)
/-- Do two parts meet? -/
def meetB (a n b m : Nat) : Bool := decide (0 < n ∧ 0 < m ∧ a < b + m ∧ b < a + n)
theorem meetB_comm (a n b m : Nat) : meetB a n b m = meetB b m a n := by
  unfold meetB
  rw [decide_eq_decide]
  constructor <;> (rintro ⟨h1, h2, h3, h4⟩; exact ⟨h2, h1, h4, h3⟩)
/-- Does y bar x? -/
def clashB (x y : Lk) : Bool := meetB y.a y.n x.a x.n && (decide (x.mode = 2) || decide (y.mode = 2))

theorem may_any (w : World) (a n : Nat) : Calls Try.prog 29 #[.int .u64 (a : Int), .int .u64 (n : Int)] w fun e w' => e = .returned (.bool (mayB a n)) ∧ w = w' := by
  obtain ⟨r, hr⟩ : ∃ r, mayB a n = r := ⟨_, rfl⟩
  rw [hr]
  by_cases h1 : a ≤ M
  · have e1 : (a : Int) ≤ 4611686018427387904 := by unfold M at h1; omega
    have e1' : a ≤ 4611686018427387904 := h1
    have hw : IntKind.u64.wrap (4611686018427387904 - (a : Int)) = 4611686018427387904 - (a : Int) := by rw [IntWalk.u64_in _ (by omega)]
    by_cases h2 : n ≤ M - a
    · have e2 : (n : Int) ≤ 4611686018427387904 - (a : Int) := by unfold M at h2; omega
      have HR : Hid (true = r) := by show _ = _; rw [← hr]; unfold mayB; simp [h1, h2]
      clear hr h1 h2
      go_enter Try.func29, Try.ntmps29
      go_wp2
      go_ret
      exact ⟨congrArg (fun q => Ending.returned (.bool q)) HR.out, rfl⟩
    · have e2 : ¬ (n : Int) ≤ 4611686018427387904 - (a : Int) := by unfold M at h2; omega
      have HR : Hid (false = r) := by show _ = _; rw [← hr]; unfold mayB; simp [h1, h2]
      clear hr h1 h2
      go_enter Try.func29, Try.ntmps29
      go_wp2
      go_ret
      exact ⟨congrArg (fun q => Ending.returned (.bool q)) HR.out, rfl⟩
  · have e1 : ¬ (a : Int) ≤ 4611686018427387904 := by unfold M at h1; omega
    have HR : Hid (false = r) := by show _ = _; rw [← hr]; unfold mayB; simp [h1]
    clear hr h1
    go_enter Try.func29, Try.ntmps29
    go_wp2
    go_ret
    exact ⟨congrArg (fun q => Ending.returned (.bool q)) HR.out, rfl⟩
end Go.Proofs.Ytgcimkbggnjcdaa
