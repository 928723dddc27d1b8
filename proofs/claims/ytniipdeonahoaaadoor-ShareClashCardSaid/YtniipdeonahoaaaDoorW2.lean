/- Contracts of share.Does and the reference's Does, by walks. -/
import Derived.Test.YtniipdeonahoaaaDoorW1
import Derived.WalkSmall
namespace Go.Proofs.YtniipdeonahoaaaDoor
open Go.RowKit

/-- What Does answers: what was made, and the error. -/
def DoesR (y : Int) (t : Bool) : Int × Int :=
  if y < 1 ∨ 5 < y then (0, 2) else if t = false ∧ (y = 1 ∨ y = 4) then (0, 7) else if t = true ∧ y = 2 then (0, 8) else if t = false then (1, 0) else if 4 ≤ y then (2, 0) else (0, 0)

/-- The table's cells, in order. -/
def wayCells : List Value := [.int .u8 0, .int .u8 0, .int .i64 2, .int .i64 2, .int .u8 0, .int .u8 0, .int .i64 0, .int .i64 7, .int .u8 0, .int .u8 1, .int .i64 8, .int .i64 0,
  .int .u8 0, .int .u8 1, .int .i64 0, .int .i64 0, .int .u8 2, .int .u8 0, .int .i64 0, .int .i64 7, .int .u8 2, .int .u8 1, .int .i64 0, .int .i64 0]

/-- The table lies in block 0 as the program's text lays it. -/
def Tab (w : World) : Prop := ∀ j v, wayCells[j]? = some v → w.cell? ⟨0, j, none⟩ = some v

theorem Tab.pos {w : World} (h : Tab w) : 0 < w.heap.size := World.block_lt_of_cell? w _ (h 0 _ rfl)
theorem Tab.below {w w' : World} (h : Tab w) (hb : Below w.heap.size w w') : Tab w' := fun j v hj => (hb.cell (p := ⟨0, j, none⟩) h.pos).trans (h j v hj)

theorem rt {a b a' b' : Int} (h : a = a') (h' : b = b') : Ending.returned (.tuple #[.int .u8 a, .int .i64 b]) = .returned (.tuple #[.int .u8 a', .int .i64 b']) := by rw [h, h']

theorem does_out (y : Int) (t : Bool) (h : y < 1 ∨ 5 < y) : DoesR y t = (0, 2) := by unfold DoesR; rw [if_pos h]

theorem does_none (y : Int) (h : y = 1 ∨ y = 4) : DoesR y false = (0, 7) := by
  rcases h with rfl | rfl <;> rfl
theorem does_twice (y : Int) (h : y = 2) : DoesR y true = (0, 8) := by subst h; rfl
theorem does_new (y : Int) (h : 1 ≤ y) (h' : y ≤ 5) (h1 : y ≠ 1) (h4 : y ≠ 4) : DoesR y false = (1, 0) := by
  have : y = 2 ∨ y = 3 ∨ y = 5 := by omega
  rcases this with rfl | rfl | rfl <;> rfl
theorem does_cut (y : Int) (h : 4 ≤ y) (h' : y ≤ 5) : DoesR y true = (2, 0) := by
  have : y = 4 ∨ y = 5 := by omega
  rcases this with rfl | rfl <;> rfl
theorem does_open (y : Int) (h : 1 ≤ y) (h' : y ≤ 3) (h1 : y ≠ 2) : DoesR y true = (0, 0) := by
  have : y = 1 ∨ y = 3 := by omega
  rcases this with rfl | rfl <;> rfl

set_option maxHeartbeats 400000 in
theorem ref_does (y : Int) (t : Bool) (w : World) (hy : 0 ≤ y) (hy' : y ≤ 4294967295) :
    Calls Tryd.prog 14 #[.int .u32 y, .bool t] w fun e w' => e = .returned (.tuple #[.int .u8 (DoesR y t).1, .int .i64 (DoesR y t).2]) ∧ w = w' := by
  cases t
  all_goals
    go_enter Tryd.func14, Tryd.ntmps14
    go_wp2
    all_goals go_ret2
    all_goals refine ⟨?_, rfl⟩
    all_goals (try simp only [beq_iff_eq, beq_eq_false_iff_ne, ne_eq] at *)
    all_goals first
      | (rw [does_out y _ (by omega)]; rfl)
      | (rw [does_none y (by omega)]; rfl)
      | (rw [does_twice y (by omega)]; rfl)
      | (rw [does_new y (by omega) (by omega) (by omega) (by omega)]; rfl)
      | (rw [does_cut y (by omega) (by omega)]; rfl)
      | (rw [does_open y (by omega) (by omega) (by omega)]; rfl)

set_option maxHeartbeats 400000 in
theorem our_does_0true (w : World) (h : Tab w) :
    Calls Tryd.prog 13 #[.int .u32 0, .bool true] w fun e w' => e = .returned (.tuple #[.int .u8 (DoesR 0 true).1, .int .i64 (DoesR 0 true).2]) ∧ Below w.heap.size w w' := by
  have c0 := h 0 _ rfl
  have c1 := h 1 _ rfl
  have c2 := h 2 _ rfl
  have c3 := h 3 _ rfl
  have hp := h.pos
  go_enter Tryd.func13, Tryd.ntmps13
  go_wp2
  go_quiet (fail)
  go_wp2
  go_ret2
  exact ⟨rt (by decide) (by decide), by repeat (first | exact Below.refl _ _ | exact (Below.refl _ _).alloc (Nat.le_refl _) _ | exact below_drewN ((Below.refl _ _).alloc (Nat.le_refl _) _) _)⟩
set_option maxHeartbeats 400000 in
theorem our_does_1true (w : World) (h : Tab w) :
    Calls Tryd.prog 13 #[.int .u32 1, .bool true] w fun e w' => e = .returned (.tuple #[.int .u8 (DoesR 1 true).1, .int .i64 (DoesR 1 true).2]) ∧ Below w.heap.size w w' := by
  have c0 := h 4 _ rfl
  have c1 := h 5 _ rfl
  have c2 := h 6 _ rfl
  have c3 := h 7 _ rfl
  have hp := h.pos
  go_enter Tryd.func13, Tryd.ntmps13
  go_wp2
  go_quiet (fail)
  go_wp2
  go_ret2
  exact ⟨rt (by decide) (by decide), by repeat (first | exact Below.refl _ _ | exact (Below.refl _ _).alloc (Nat.le_refl _) _ | exact below_drewN ((Below.refl _ _).alloc (Nat.le_refl _) _) _)⟩
set_option maxHeartbeats 400000 in
theorem our_does_2true (w : World) (h : Tab w) :
    Calls Tryd.prog 13 #[.int .u32 2, .bool true] w fun e w' => e = .returned (.tuple #[.int .u8 (DoesR 2 true).1, .int .i64 (DoesR 2 true).2]) ∧ Below w.heap.size w w' := by
  have c0 := h 8 _ rfl
  have c1 := h 9 _ rfl
  have c2 := h 10 _ rfl
  have c3 := h 11 _ rfl
  have hp := h.pos
  go_enter Tryd.func13, Tryd.ntmps13
  go_wp2
  go_quiet (fail)
  go_wp2
  go_ret2
  exact ⟨rt (by decide) (by decide), by repeat (first | exact Below.refl _ _ | exact (Below.refl _ _).alloc (Nat.le_refl _) _ | exact below_drewN ((Below.refl _ _).alloc (Nat.le_refl _) _) _)⟩
set_option maxHeartbeats 400000 in
theorem our_does_3true (w : World) (h : Tab w) :
    Calls Tryd.prog 13 #[.int .u32 3, .bool true] w fun e w' => e = .returned (.tuple #[.int .u8 (DoesR 3 true).1, .int .i64 (DoesR 3 true).2]) ∧ Below w.heap.size w w' := by
  have c0 := h 12 _ rfl
  have c1 := h 13 _ rfl
  have c2 := h 14 _ rfl
  have c3 := h 15 _ rfl
  have hp := h.pos
  go_enter Tryd.func13, Tryd.ntmps13
  go_wp2
  go_quiet (fail)
  go_wp2
  go_ret2
  exact ⟨rt (by decide) (by decide), by repeat (first | exact Below.refl _ _ | exact (Below.refl _ _).alloc (Nat.le_refl _) _ | exact below_drewN ((Below.refl _ _).alloc (Nat.le_refl _) _) _)⟩
set_option maxHeartbeats 400000 in
theorem our_does_4true (w : World) (h : Tab w) :
    Calls Tryd.prog 13 #[.int .u32 4, .bool true] w fun e w' => e = .returned (.tuple #[.int .u8 (DoesR 4 true).1, .int .i64 (DoesR 4 true).2]) ∧ Below w.heap.size w w' := by
  have c0 := h 16 _ rfl
  have c1 := h 17 _ rfl
  have c2 := h 18 _ rfl
  have c3 := h 19 _ rfl
  have hp := h.pos
  go_enter Tryd.func13, Tryd.ntmps13
  go_wp2
  go_quiet (fail)
  go_wp2
  go_ret2
  exact ⟨rt (by decide) (by decide), by repeat (first | exact Below.refl _ _ | exact (Below.refl _ _).alloc (Nat.le_refl _) _ | exact below_drewN ((Below.refl _ _).alloc (Nat.le_refl _) _) _)⟩
set_option maxHeartbeats 400000 in
theorem our_does_5true (w : World) (h : Tab w) :
    Calls Tryd.prog 13 #[.int .u32 5, .bool true] w fun e w' => e = .returned (.tuple #[.int .u8 (DoesR 5 true).1, .int .i64 (DoesR 5 true).2]) ∧ Below w.heap.size w w' := by
  have c0 := h 20 _ rfl
  have c1 := h 21 _ rfl
  have c2 := h 22 _ rfl
  have c3 := h 23 _ rfl
  have hp := h.pos
  go_enter Tryd.func13, Tryd.ntmps13
  go_wp2
  go_quiet (fail)
  go_wp2
  go_ret2
  exact ⟨rt (by decide) (by decide), by repeat (first | exact Below.refl _ _ | exact (Below.refl _ _).alloc (Nat.le_refl _) _ | exact below_drewN ((Below.refl _ _).alloc (Nat.le_refl _) _) _)⟩
set_option maxHeartbeats 400000 in
theorem our_does_0false (w : World) (h : Tab w) :
    Calls Tryd.prog 13 #[.int .u32 0, .bool false] w fun e w' => e = .returned (.tuple #[.int .u8 (DoesR 0 false).1, .int .i64 (DoesR 0 false).2]) ∧ Below w.heap.size w w' := by
  have c0 := h 0 _ rfl
  have c1 := h 1 _ rfl
  have c2 := h 2 _ rfl
  have c3 := h 3 _ rfl
  have hp := h.pos
  go_enter Tryd.func13, Tryd.ntmps13
  go_wp2
  go_quiet (fail)
  go_wp2
  go_ret2
  exact ⟨rt (by decide) (by decide), by repeat (first | exact Below.refl _ _ | exact (Below.refl _ _).alloc (Nat.le_refl _) _ | exact below_drewN ((Below.refl _ _).alloc (Nat.le_refl _) _) _)⟩
set_option maxHeartbeats 400000 in
theorem our_does_1false (w : World) (h : Tab w) :
    Calls Tryd.prog 13 #[.int .u32 1, .bool false] w fun e w' => e = .returned (.tuple #[.int .u8 (DoesR 1 false).1, .int .i64 (DoesR 1 false).2]) ∧ Below w.heap.size w w' := by
  have c0 := h 4 _ rfl
  have c1 := h 5 _ rfl
  have c2 := h 6 _ rfl
  have c3 := h 7 _ rfl
  have hp := h.pos
  go_enter Tryd.func13, Tryd.ntmps13
  go_wp2
  go_quiet (fail)
  go_wp2
  go_ret2
  exact ⟨rt (by decide) (by decide), by repeat (first | exact Below.refl _ _ | exact (Below.refl _ _).alloc (Nat.le_refl _) _ | exact below_drewN ((Below.refl _ _).alloc (Nat.le_refl _) _) _)⟩
set_option maxHeartbeats 400000 in
theorem our_does_2false (w : World) (h : Tab w) :
    Calls Tryd.prog 13 #[.int .u32 2, .bool false] w fun e w' => e = .returned (.tuple #[.int .u8 (DoesR 2 false).1, .int .i64 (DoesR 2 false).2]) ∧ Below w.heap.size w w' := by
  have c0 := h 8 _ rfl
  have c1 := h 9 _ rfl
  have c2 := h 10 _ rfl
  have c3 := h 11 _ rfl
  have hp := h.pos
  go_enter Tryd.func13, Tryd.ntmps13
  go_wp2
  go_quiet (fail)
  go_wp2
  go_ret2
  exact ⟨rt (by decide) (by decide), by repeat (first | exact Below.refl _ _ | exact (Below.refl _ _).alloc (Nat.le_refl _) _ | exact below_drewN ((Below.refl _ _).alloc (Nat.le_refl _) _) _)⟩
set_option maxHeartbeats 400000 in
theorem our_does_3false (w : World) (h : Tab w) :
    Calls Tryd.prog 13 #[.int .u32 3, .bool false] w fun e w' => e = .returned (.tuple #[.int .u8 (DoesR 3 false).1, .int .i64 (DoesR 3 false).2]) ∧ Below w.heap.size w w' := by
  have c0 := h 12 _ rfl
  have c1 := h 13 _ rfl
  have c2 := h 14 _ rfl
  have c3 := h 15 _ rfl
  have hp := h.pos
  go_enter Tryd.func13, Tryd.ntmps13
  go_wp2
  go_quiet (fail)
  go_wp2
  go_ret2
  exact ⟨rt (by decide) (by decide), by repeat (first | exact Below.refl _ _ | exact (Below.refl _ _).alloc (Nat.le_refl _) _ | exact below_drewN ((Below.refl _ _).alloc (Nat.le_refl _) _) _)⟩
set_option maxHeartbeats 400000 in
theorem our_does_4false (w : World) (h : Tab w) :
    Calls Tryd.prog 13 #[.int .u32 4, .bool false] w fun e w' => e = .returned (.tuple #[.int .u8 (DoesR 4 false).1, .int .i64 (DoesR 4 false).2]) ∧ Below w.heap.size w w' := by
  have c0 := h 16 _ rfl
  have c1 := h 17 _ rfl
  have c2 := h 18 _ rfl
  have c3 := h 19 _ rfl
  have hp := h.pos
  go_enter Tryd.func13, Tryd.ntmps13
  go_wp2
  go_quiet (fail)
  go_wp2
  go_ret2
  exact ⟨rt (by decide) (by decide), by repeat (first | exact Below.refl _ _ | exact (Below.refl _ _).alloc (Nat.le_refl _) _ | exact below_drewN ((Below.refl _ _).alloc (Nat.le_refl _) _) _)⟩
set_option maxHeartbeats 400000 in
theorem our_does_5false (w : World) (h : Tab w) :
    Calls Tryd.prog 13 #[.int .u32 5, .bool false] w fun e w' => e = .returned (.tuple #[.int .u8 (DoesR 5 false).1, .int .i64 (DoesR 5 false).2]) ∧ Below w.heap.size w w' := by
  have c0 := h 20 _ rfl
  have c1 := h 21 _ rfl
  have c2 := h 22 _ rfl
  have c3 := h 23 _ rfl
  have hp := h.pos
  go_enter Tryd.func13, Tryd.ntmps13
  go_wp2
  go_quiet (fail)
  go_wp2
  go_ret2
  exact ⟨rt (by decide) (by decide), by repeat (first | exact Below.refl _ _ | exact (Below.refl _ _).alloc (Nat.le_refl _) _ | exact below_drewN ((Below.refl _ _).alloc (Nat.le_refl _) _) _)⟩
set_option maxHeartbeats 400000 in
theorem our_does_bigtrue (y : Int) (w : World) (h : Tab w) (hy : 5 < y) :
    Calls Tryd.prog 13 #[.int .u32 y, .bool true] w fun e w' => e = .returned (.tuple #[.int .u8 (DoesR y true).1, .int .i64 (DoesR y true).2]) ∧ Below w.heap.size w w' := by
  rw [does_out y true (.inr hy)]
  have c0 := h 0 _ rfl
  have c1 := h 1 _ rfl
  have c2 := h 2 _ rfl
  have c3 := h 3 _ rfl
  have hp := h.pos
  go_enter Tryd.func13, Tryd.ntmps13
  go_wp2
  go_quiet (fail)
  go_wp2
  go_ret2
  exact ⟨rfl, below_drewN ((Below.refl _ _).alloc (Nat.le_refl _) _) _⟩
set_option maxHeartbeats 400000 in
theorem our_does_bigfalse (y : Int) (w : World) (h : Tab w) (hy : 5 < y) :
    Calls Tryd.prog 13 #[.int .u32 y, .bool false] w fun e w' => e = .returned (.tuple #[.int .u8 (DoesR y false).1, .int .i64 (DoesR y false).2]) ∧ Below w.heap.size w w' := by
  rw [does_out y false (.inr hy)]
  have c0 := h 0 _ rfl
  have c1 := h 1 _ rfl
  have c2 := h 2 _ rfl
  have c3 := h 3 _ rfl
  have hp := h.pos
  go_enter Tryd.func13, Tryd.ntmps13
  go_wp2
  go_quiet (fail)
  go_wp2
  go_ret2
  exact ⟨rfl, below_drewN ((Below.refl _ _).alloc (Nat.le_refl _) _) _⟩

theorem our_does (y : Int) (t : Bool) (w : World) (h : Tab w) (hy : 0 ≤ y) :
    Calls Tryd.prog 13 #[.int .u32 y, .bool t] w fun e w' => e = .returned (.tuple #[.int .u8 (DoesR y t).1, .int .i64 (DoesR y t).2]) ∧ Below w.heap.size w w' := by
  have hc : y = 0 ∨ y = 1 ∨ y = 2 ∨ y = 3 ∨ y = 4 ∨ y = 5 ∨ 5 < y := by omega
  cases t
  · rcases hc with rfl | rfl | rfl | rfl | rfl | rfl | hc
    · exact our_does_0false w h
    · exact our_does_1false w h
    · exact our_does_2false w h
    · exact our_does_3false w h
    · exact our_does_4false w h
    · exact our_does_5false w h
    · exact our_does_bigfalse y w h hc
  · rcases hc with rfl | rfl | rfl | rfl | rfl | rfl | hc
    · exact our_does_0true w h
    · exact our_does_1true w h
    · exact our_does_2true w h
    · exact our_does_3true w h
    · exact our_does_4true w h
    · exact our_does_5true w h
    · exact our_does_bigtrue y w h hc
end Go.Proofs.YtniipdeonahoaaaDoor
