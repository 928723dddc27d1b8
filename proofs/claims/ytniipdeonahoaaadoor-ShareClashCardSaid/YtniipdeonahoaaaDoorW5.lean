/- The laws ShareMay, ShareDoes, ShareBoth, ShareLess, ShareWays, by walks over the contracts. -/
import Derived.Test.YtniipdeonahoaaaDoorW4
namespace Go.Proofs.YtniipdeonahoaaaDoor
open Go.RowKit

/-- A world that has come of w by new blocks and draws alone. -/
structure Bl (w : World) where
  W : World
  h : Below w.heap.size w W

instance {w : World} : Inhabited (Bl w) := ⟨⟨w, Below.refl _ _⟩⟩

theorem wp_region_bl {P : Program} {id : Nat} {Q : Exit → Act → World → Prop} {a : Act} {w : World} {l : List Oper} (hm : P.follows .mixedOrders = true) (hB : Region.lexB .any l.toArray = true)
    (h : wpQuiet P l.toArray (fun w' => ∃ p : Bl w, w' = p.W) (fun a' => ∀ w', (∃ p : Bl w, w' = p.W) → Q .normal a' w') l a) : (Code.region id l.toArray true).wp P Q a w :=
  wp_region_quiet (C := fun w' => ∃ p : Bl w, w' = p.W) hm hB ⟨⟨w.drew, (Below.refl _ _).drew⟩, rfl⟩ (by simpa using h)

theorem calls_bl {P : Program} {f : FuncId} {args : Array Value} {w : World} {p : Bl w} {v : Value}
    (h : Calls P f args p.W fun e w' => e = .returned v ∧ Below p.W.heap.size p.W w') : Calls P f args p.W fun e w'' => e = .returned v ∧ ∃ q : Bl w, w'' = q.W :=
  h.mono fun _ w'' ⟨he, hb⟩ => ⟨he, ⟨w'', p.h.trans (hb.mono p.h.size)⟩, rfl⟩

theorem ShareMay_walk (a s y o : Int) (w : World) (hT : Tab w) (ha : 0 ≤ a) (ha' : a ≤ 4294967295) (hs : 0 ≤ s) (hs' : s ≤ 4294967295) (hy : 0 ≤ y) (hy' : y ≤ 4294967295) (ho : 0 ≤ o) (ho' : o ≤ 4294967295) :
    Calls Tryd.prog 3 #[.int .u32 a, .int .u32 s, .int .u32 y, .int .u32 o] w fun e w' => e = .returned (.bool true) ∧ Below w.heap.size w w' := by
  go_enter Tryd.func3, Tryd.ntmps3
  go_wp2_with fail
  refine (our_may a s y o _ ha ha' hs hs' hy hy' ho ho').mono ?_
  rintro e w' ⟨rfl, rfl⟩
  go_wp2_with fail
  refine (ref_may a s y o _ ha ha' hs hs' hy hy' ho ho').mono ?_
  rintro e w' ⟨rfl, rfl⟩
  go_wp2_with fail
  refine (works_any _ hT).mono ?_
  rintro e w' ⟨rfl, hb⟩
  go_wp2_with fail
  go_ret
  exact ⟨rfl, hb⟩

theorem ShareDoes_walk (y : Int) (t : Bool) (w : World) (hT : Tab w) (hy : 0 ≤ y) (hy' : y ≤ 4294967295) :
    Calls Tryd.prog 4 #[.int .u32 y, .bool t] w fun e w' => e = .returned (.bool true) ∧ Below w.heap.size w w' := by
  go_enter Tryd.func4, Tryd.ntmps4
  go_wp2_with fail
  refine (our_does y t _ hT hy).mono ?_
  rintro e w1 ⟨rfl, hb1⟩
  have hT1 := hT.below hb1
  go_wp2_with fail
  refine (ref_does y t _ hy hy').mono ?_
  rintro e w' ⟨rfl, rfl⟩
  go_wp2_with fail
  refine (works_any _ hT1).mono ?_
  rintro e w' ⟨rfl, hb⟩
  go_wp2_with fail
  go_ret
  exact ⟨rfl, hb1.trans (hb.mono hb1.size)⟩

theorem clash_comm (a0 a1 b0 b1 : Int) : ClashR a0 a1 b0 b1 = ClashR b0 b1 a0 a1 := by unfold ClashR; rw [Bool.or_comm]

set_option maxHeartbeats 400000 in
theorem ShareBoth_walk (a0 a1 b0 b1 : Int) (w : World) (hT : Tab w) (h1 : 0 ≤ a0) (h1' : a0 ≤ 4294967295) (h2 : 0 ≤ a1) (h2' : a1 ≤ 4294967295) (h3 : 0 ≤ b0) (h3' : b0 ≤ 4294967295) (h4 : 0 ≤ b1) (h4' : b1 ≤ 4294967295) :
    Calls Tryd.prog 5 #[.agg #[.int .u32 a0, .int .u32 a1], .agg #[.int .u32 b0, .int .u32 b1]] w fun e w' => e = .returned (.bool true) ∧ Below w.heap.size w w' := by
  have c1 := fun W : World => our_clash a0 a1 b0 b1 W h1 h1' h2 h2' h3 h3' h4 h4'
  have c2 := fun W : World => our_clash b0 b1 a0 a1 W h3 h3' h4 h4' h1 h1' h2 h2'
  rw [clash_comm b0 b1 a0 a1] at c2
  have hb0 : Below w.heap.size w ((w.alloc (.cells #[.int .u32 a0, .int .u32 a1] 31)).alloc (.cells #[.int .u32 b0, .int .u32 b1] 31)) := ((Below.refl w.heap.size w).alloc (Nat.le_refl _) _).alloc (by simp) _
  have hT0 := hT.below hb0
  have hz : w.heap.size < ((w.alloc (.cells #[.int .u32 a0, .int .u32 a1] 31)).alloc (.cells #[.int .u32 b0, .int .u32 b1] 31)).heap.size := by simp; omega
  have hz' : w.heap.size + 1 < ((w.alloc (.cells #[.int .u32 a0, .int .u32 a1] 31)).alloc (.cells #[.int .u32 b0, .int .u32 b1] 31)).heap.size := by simp
  have k0 : ((w.alloc (.cells #[.int .u32 a0, .int .u32 a1] 31)).alloc (.cells #[.int .u32 b0, .int .u32 b1] 31)).cell? ⟨w.heap.size, 0, none⟩ = some (.int .u32 a0) := by simp
  have k1 : ((w.alloc (.cells #[.int .u32 a0, .int .u32 a1] 31)).alloc (.cells #[.int .u32 b0, .int .u32 b1] 31)).cell? ⟨w.heap.size, 1, none⟩ = some (.int .u32 a1) := by simp
  have k2 : ((w.alloc (.cells #[.int .u32 a0, .int .u32 a1] 31)).alloc (.cells #[.int .u32 b0, .int .u32 b1] 31)).cell? ⟨w.heap.size + 1, 0, none⟩ = some (.int .u32 b0) := by simp
  have k3 : ((w.alloc (.cells #[.int .u32 a0, .int .u32 a1] 31)).alloc (.cells #[.int .u32 b0, .int .u32 b1] 31)).cell? ⟨w.heap.size + 1, 1, none⟩ = some (.int .u32 b1) := by simp
  go_enter Tryd.func5, Tryd.ntmps5
  go_wp2_with fail
  generalize hW0 : (w.alloc (.cells #[.int .u32 a0, .int .u32 a1] 31)).alloc (.cells #[.int .u32 b0, .int .u32 b1] 31) = w0 at *
  clear hW0
  have f0 : ∀ p : Bl w0, p.W.cell? ⟨w.heap.size, 0, none⟩ = some (.int .u32 a0) := fun p => (p.h.cell (p := ⟨w.heap.size, 0, none⟩) hz).trans k0
  have f1 : ∀ p : Bl w0, p.W.cell? ⟨w.heap.size, 1, none⟩ = some (.int .u32 a1) := fun p => (p.h.cell (p := ⟨w.heap.size, 1, none⟩) hz).trans k1
  have f2 : ∀ p : Bl w0, p.W.cell? ⟨w.heap.size + 1, 0, none⟩ = some (.int .u32 b0) := fun p => (p.h.cell (p := ⟨w.heap.size + 1, 0, none⟩) hz').trans k2
  have f3 : ∀ p : Bl w0, p.W.cell? ⟨w.heap.size + 1, 1, none⟩ = some (.int .u32 b1) := fun p => (p.h.cell (p := ⟨w.heap.size + 1, 1, none⟩) hz').trans k3
  clear k0 k1 k2 k3
  refine wp_region_bl (by kernel_rfl) (by kernel_rfl) ?_
  repeat (go_big_quiet_step ((first | (go_at_call 15; first | (with_reducible exact calls_bl (c1 _)) | (with_reducible exact calls_bl (c2 _))) | (go_at_call 12; with_reducible exact calls_bl (works_any _ (hT0.below (Bl.h _)))))))
  refine wpQuiet_nil ?_
  intro w1 hw1
  obtain ⟨p, rfl⟩ := hw1
  go_wp2_with fail
  go_ret
  exact ⟨rfl, hb0.trans (p.h.mono hb0.size)⟩
end Go.Proofs.YtniipdeonahoaaaDoor
