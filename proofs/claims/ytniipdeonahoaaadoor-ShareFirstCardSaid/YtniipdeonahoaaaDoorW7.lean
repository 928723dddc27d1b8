/- The laws ShareClash and ShareFirst, by walks over the contracts; slices of modes opened. -/
import Derived.Test.YtniipdeonahoaaaDoorB
import Derived.Deep.SlicePairs
namespace Go.Proofs.YtniipdeonahoaaaDoor
open Go.ChangeShapes Go.WideShapes Go.RowKit Go.Deep

/-- A slice of modes, nil and empty too: its address may be none. -/
def ModesO (w : World) (ao : Option Addr) (n : Nat) (A S : Nat → Int) : Prop := n = 0 ∨ ∃ b o, ao = some ⟨b, o, none⟩ ∧ Modes w b o n A S

theorem modes_of {H : Type} {enc : TypeId × Value → H} {w : World} {ao : Option Addr} {n c : Nat} {d : DataW H} {p : List MemPlace}
    (h : DataW.Trod enc Tryd.prog w 0 (fun _ => true) true 35 (.slice ao n c) d p) : ∃ A S, ModesO w ao n A S ∧ n ≤ 9223372036854775807 := by
  obtain ⟨fuel, hf⟩ := h
  rcases open_slice_pairs Tryd.underlying35 Tryd.underlying31 cells31 rfl rfl cells22 cells22 hf with ⟨hcs, _⟩ | ⟨a, len, cap, m, n', V0, V1, D0, D1, P0, P1, hcs, hb, hl, hm, hmm, hx, hi⟩
  · simp [Value.cells] at hcs
    obtain ⟨rfl, rfl, rfl⟩ := hcs
    exact ⟨fun _ => 0, fun _ => 0, .inl rfl, by omega⟩
  · simp [Value.cells] at hcs
    obtain ⟨rfl, rfl, rfl⟩ := hcs
    have hlen : n ≤ 9223372036854775807 := by unfold maxLen at hm; omega
    obtain rfl : m = c := by simpa using hmm
    by_cases hn : n = 0
    · exact ⟨fun _ => 0, fun _ => 0, .inl hn, hlen⟩
    obtain ⟨b, off, spot⟩ := a
    have hspot : spot = none := by
      have := (hi 0 (by omega)).1
      simpa [Addr.add] using World.cell?_spot this
    subst hspot
    have key : ∀ i, i < n → ∃ q : Int × Int, w.cell? ⟨b, off + i * 2, none⟩ = some (.int .u32 q.1) ∧ w.cell? ⟨b, off + i * 2 + 1, none⟩ = some (.int .u32 q.2) ∧ 0 ≤ q.1 ∧ q.1 ≤ 4294967295 ∧ 0 ≤ q.2 ∧ q.2 ≤ 4294967295 := fun i hlt => by
      obtain ⟨c0, c1, t0, t1⟩ := hi i (by omega)
      obtain ⟨x, e0, _, w0⟩ := DataW.trod_int Tryd.underlying22 t0
      obtain ⟨y, e1, _, w1⟩ := DataW.trod_int Tryd.underlying22 t1
      simp only [List.cons.injEq, and_true] at e0 e1
      rw [e0, add_plain] at c0
      rw [e1, add_plain] at c1
      obtain ⟨b1, b2⟩ := bounds_u32 w0
      obtain ⟨b3, b4⟩ := bounds_u32 w1
      exact ⟨(x, y), c0, c1, b1, b2, b3, b4⟩
    obtain ⟨f, hf⟩ := choose_lt key
    refine ⟨fun i => (f i).1, fun i => (f i).2, .inr ⟨b, off, rfl, ?_, fun i hlt => hf i hlt⟩, hlen⟩
    exact World.block_lt_of_cell? w _ (hf 0 (by omega)).1

theorem ModesO.below {w w' : World} {ao : Option Addr} {n : Nat} {A S : Nat → Int} (h : ModesO w ao n A S) (hb : Below w.heap.size w w') : ModesO w' ao n A S := by
  rcases h with h | ⟨b, o, rfl, hM⟩
  · exact .inl h
  · exact .inr ⟨b, o, rfl, hM.below hb hM.1⟩

/-- slices.IndexFunc of no element. -/
theorem indexFunc_none (ao : Option Addr) (c : Nat) (fv : Value) (w : World) :
    Calls Tryd.prog 20 #[.slice ao 0 c, fv] w fun e w' => e = .returned (.int .i64 (-1)) ∧ w = w' := by
  go_enter Tryd.func20, Tryd.ntmps20
  go_wp2
  go_loopw [5, 8] (fun _ s8 wr => s8 = .int .i64 0 ∧ wr = w) (fun _ _ _ => 0)
  case atStart => exact ⟨rfl, rfl⟩
  case round =>
    obtain ⟨rfl, rfl⟩ := hrel
    go_wp2
    go_ret
    exact ⟨rfl, rfl⟩

theorem our_among_o (ao : Option Addr) (n c : Nat) (A S : Nat → Int) (m0 m1 : Int) (w : World) (hM : ModesO w ao n A S) (hn : n ≤ 9223372036854775807)
    (h3 : 0 ≤ m0) (h3' : m0 ≤ 4294967295) (h4 : 0 ≤ m1) (h4' : m1 ≤ 4294967295) :
    Calls Tryd.prog 17 #[.slice ao n c, .agg #[.int .u32 m0, .int .u32 m1]] w fun e w' =>
      e = .returned (.int .i64 (firstAt (fun i => ClashR (A i) (S i) m0 m1) n)) ∧ Below w.heap.size w w' := by
  rcases hM with rfl | ⟨b, o, rfl, hM⟩
  · rw [firstAt_miss _ 0 (fun j hj => absurd hj (Nat.not_lt_zero _))]
    go_enter Tryd.func17, Tryd.ntmps17
    go_wp2_with fail
    refine (indexFunc_none _ _ _ _).mono ?_
    rintro e w1 ⟨rfl, rfl⟩
    go_wp2_with fail
    go_ret
    exact ⟨rfl, (Below.refl _ _).alloc (Nat.le_refl _) _⟩
  · exact our_among b o n c A S m0 m1 w hM hn h3 h3' h4 h4'

theorem ref_among_o (ao : Option Addr) (n c : Nat) (A S : Nat → Int) (m0 m1 : Int) (w : World) (hM : ModesO w ao n A S) (hn : n ≤ 9223372036854775807) :
    Calls Tryd.prog 18 #[.slice ao n c, .agg #[.int .u32 m0, .int .u32 m1]] w fun e w' =>
      e = .returned (.int .i64 (firstAt (fun i => ClashR (A i) (S i) m0 m1) n)) ∧ Below w.heap.size w w' := by
  rcases hM with rfl | ⟨b, o, rfl, hM⟩
  · rw [firstAt_miss _ 0 (fun j hj => absurd hj (Nat.not_lt_zero _))]
    go_enter Tryd.func18, Tryd.ntmps18
    go_wp2
    go_loopw [4, 5] (fun _ s5 wr => s5 = .int .i64 0 ∧ wr = w.alloc (.cells #[.int .u32 m0, .int .u32 m1] 31)) (fun _ _ _ => 0)
    case atStart => exact ⟨rfl, rfl⟩
    case round =>
      obtain ⟨rfl, rfl⟩ := hrel
      go_wp2
      go_ret
      exact ⟨rfl, (Below.refl _ _).alloc (Nat.le_refl _) _⟩
  · exact ref_among b o n c A S m0 m1 w hM hn

set_option maxHeartbeats 1000000 in
theorem ShareClash_walk (a0 a1 b0 b1 : Int) (ao : Option Addr) (n c : Nat) (A S : Nat → Int) (w : World) (hT : Tab w) (h1 : 0 ≤ a0) (h1' : a0 ≤ 4294967295) (h2 : 0 ≤ a1) (h2' : a1 ≤ 4294967295) (h3 : 0 ≤ b0) (h3' : b0 ≤ 4294967295) (h4 : 0 ≤ b1) (h4' : b1 ≤ 4294967295)
    (hM : ModesO w ao n A S) (hn : n ≤ 9223372036854775807) :
    Calls Tryd.prog 8 #[.agg #[.int .u32 a0, .int .u32 a1], .agg #[.int .u32 b0, .int .u32 b1], .slice ao n c] w fun e w' => e = .returned (.bool true) ∧ Below w.heap.size w w' := by
  have c1 := fun W : World => our_clash a0 a1 b0 b1 W h1 h1' h2 h2' h3 h3' h4 h4'
  have c2 := fun W : World => ref_clash a0 a1 b0 b1 W
  have c3 := fun (W : World) (h : ModesO W ao n A S) => our_among_o ao n c A S a0 a1 W h hn h1 h1' h2 h2'
  have c4 := fun (W : World) (h : ModesO W ao n A S) => ref_among_o ao n c A S a0 a1 W h hn
  generalize ClashR a0 a1 b0 b1 = r1 at c1 c2
  generalize firstAt (fun i => ClashR (A i) (S i) a0 a1) n = r2 at c3 c4
  have hb0 : Below w.heap.size w ((w.alloc (.cells #[.int .u32 a0, .int .u32 a1] 31)).alloc (.cells #[.int .u32 b0, .int .u32 b1] 31)) := ((Below.refl w.heap.size w).alloc (Nat.le_refl _) _).alloc (by simp) _
  have hT0 := hT.below hb0
  have hM0 := hM.below hb0
  clear hM hT
  have hz : w.heap.size < ((w.alloc (.cells #[.int .u32 a0, .int .u32 a1] 31)).alloc (.cells #[.int .u32 b0, .int .u32 b1] 31)).heap.size := by simp; omega
  have hz' : w.heap.size + 1 < ((w.alloc (.cells #[.int .u32 a0, .int .u32 a1] 31)).alloc (.cells #[.int .u32 b0, .int .u32 b1] 31)).heap.size := by simp
  have k0 : ((w.alloc (.cells #[.int .u32 a0, .int .u32 a1] 31)).alloc (.cells #[.int .u32 b0, .int .u32 b1] 31)).cell? ⟨w.heap.size, 0, none⟩ = some (.int .u32 a0) := by simp
  have k1 : ((w.alloc (.cells #[.int .u32 a0, .int .u32 a1] 31)).alloc (.cells #[.int .u32 b0, .int .u32 b1] 31)).cell? ⟨w.heap.size, 1, none⟩ = some (.int .u32 a1) := by simp
  have k2 : ((w.alloc (.cells #[.int .u32 a0, .int .u32 a1] 31)).alloc (.cells #[.int .u32 b0, .int .u32 b1] 31)).cell? ⟨w.heap.size + 1, 0, none⟩ = some (.int .u32 b0) := by simp
  have k3 : ((w.alloc (.cells #[.int .u32 a0, .int .u32 a1] 31)).alloc (.cells #[.int .u32 b0, .int .u32 b1] 31)).cell? ⟨w.heap.size + 1, 1, none⟩ = some (.int .u32 b1) := by simp
  go_enter Tryd.func8, Tryd.ntmps8
  go_wp2_with fail
  generalize hW0 : (w.alloc (.cells #[.int .u32 a0, .int .u32 a1] 31)).alloc (.cells #[.int .u32 b0, .int .u32 b1] 31) = w0 at *
  clear hW0
  have f0 : ∀ p : Bl w0, p.W.cell? ⟨w.heap.size, 0, none⟩ = some (.int .u32 a0) := fun p => (p.h.cell (p := ⟨w.heap.size, 0, none⟩) hz).trans k0
  have f1 : ∀ p : Bl w0, p.W.cell? ⟨w.heap.size, 1, none⟩ = some (.int .u32 a1) := fun p => (p.h.cell (p := ⟨w.heap.size, 1, none⟩) hz).trans k1
  have f2 : ∀ p : Bl w0, p.W.cell? ⟨w.heap.size + 1, 0, none⟩ = some (.int .u32 b0) := fun p => (p.h.cell (p := ⟨w.heap.size + 1, 0, none⟩) hz').trans k2
  have f3 : ∀ p : Bl w0, p.W.cell? ⟨w.heap.size + 1, 1, none⟩ = some (.int .u32 b1) := fun p => (p.h.cell (p := ⟨w.heap.size + 1, 1, none⟩) hz').trans k3
  clear k0 k1 k2 k3
  refine wp_region_bl (by kernel_rfl) (by kernel_rfl) ?_
  repeat (go_big_quiet_step ((first | (go_at_call 15; with_reducible exact calls_bl (c1 _)) | (go_at_call 16; with_reducible exact calls_bl (c2 _)) | (go_at_call 17; with_reducible exact calls_bl (c3 _ (hM0.below (Bl.h _)))) | (go_at_call 18; with_reducible exact calls_bl (c4 _ (hM0.below (Bl.h _)))) | (go_at_call 12; with_reducible exact calls_bl (works_any _ (hT0.below (Bl.h _)))))))
  refine wpQuiet_nil ?_
  intro w1 hw1
  obtain ⟨p, rfl⟩ := hw1
  go_wp2_with fail
  go_ret
  exact ⟨rfl, hb0.trans (p.h.mono hb0.size)⟩

theorem firstAt_cases (p : Nat → Bool) (n : Nat) : (firstAt p n = -1 ∧ ∀ j, j < n → p j = false) ∨ ∃ k, k < n ∧ firstAt p n = (k : Int) ∧ p k = true ∧ ∀ j, j < k → p j = false := by
  unfold firstAt
  cases h : (List.range n).find? p with
  | none => exact .inl ⟨rfl, fun j hj => by simpa using List.find?_range_eq_none.1 h j hj⟩
  | some k =>
    obtain ⟨h1, h2, h3⟩ := List.find?_range_eq_some.1 h
    exact .inr ⟨k, by simpa using h2, rfl, h1, fun j hj => by simpa using h3 j hj⟩

set_option maxHeartbeats 2000000 in
theorem ShareFirst_walk (ao : Option Addr) (n c : Nat) (A S : Nat → Int) (m0 m1 : Int) (w : World) (hT : Tab w) (hM : ModesO w ao n A S) (hn : n ≤ 9223372036854775807) (h3 : 0 ≤ m0) (h3' : m0 ≤ 4294967295) (h4 : 0 ≤ m1) (h4' : m1 ≤ 4294967295) :
    Calls Tryd.prog 9 #[.slice ao n c, .agg #[.int .u32 m0, .int .u32 m1]] w fun e w' => e = .returned (.bool true) ∧ Below w.heap.size w w' := by
  have hb0 : Below w.heap.size w (w.alloc (.cells #[.int .u32 m0, .int .u32 m1] 31)) := (Below.refl w.heap.size w).alloc (Nat.le_refl _) _
  have ham := our_among_o ao n c A S m0 m1 _ (hM.below hb0) hn h3 h3' h4 h4'
  rcases firstAt_cases (fun i => ClashR (A i) (S i) m0 m1) n with ⟨hr, hall⟩ | ⟨k, hk, hr, hp, hall⟩
  · -- it clashes with none
    rw [hr] at ham
    have HALL : Hid (∀ j, j < n → ClashR (A j) (S j) m0 m1 = false) := hall
    clear hall hr
    go_enter Tryd.func9, Tryd.ntmps9
    go_wp2_with fail
    refine ham.mono ?_
    rintro e w1 ⟨rfl, b1⟩
    have k0 : w1.cell? ⟨w.heap.size, 0, none⟩ = some (.int .u32 m0) := (b1.cell (p := ⟨w.heap.size, 0, none⟩) (by simp)).trans (by go_simp)
    have k1 : w1.cell? ⟨w.heap.size, 1, none⟩ = some (.int .u32 m1) := (b1.cell (p := ⟨w.heap.size, 1, none⟩) (by simp)).trans (by go_simp)
    have hw1 := hb0.trans (b1.mono (by simp))
    have hM1 := hM.below hw1
    have hz : w.heap.size < w1.heap.size := World.block_lt_of_cell? w1 _ k0
    clear b1 hb0 ham hM
    have g2 : decide ((n : Int) ≤ -1) = false := decide_eq_false (by omega)
    go_wp2_with fail
    go_quiet (fail)
    go_wp2_with fail
    go_loopw [4, 6] (fun _ s6 wr => ∃ k : Nat, k ≤ n ∧ s6 = .int .i64 k ∧ Hid (Below w1.heap.size w1 wr)) (fun _ s6 _ => n - (intOf s6).toNat)
    case atStart => exact ⟨0, Nat.zero_le _, rfl, below_drewN (Below.refl _ _) _⟩
    case round =>
      obtain ⟨k, hk, rfl, hb⟩ := hrel
      by_cases hlt : k < n
      · rcases hM1 with rfl | ⟨b, o, rfl, hM1⟩
        · exact absurd hlt (Nat.not_lt_zero _)
        have hMr := hM1.below hb.out hM1.1
        obtain ⟨l0, l1, r1, r2, r3, r4⟩ := hMr.2 k hlt
        have d0 := (hb.out.cell (p := ⟨w.heap.size, 0, none⟩) hz).trans k0
        have d1 := (hb.out.cell (p := ⟨w.heap.size, 1, none⟩) hz).trans k1
        have hzr : w.heap.size < wr.heap.size := World.block_lt_of_cell? wr _ d0
        have hbr : b < wr.heap.size := hMr.1
        have cc := fun W : World => our_clash (A k) (S k) m0 m1 W r1 r2 r3 r4 h3 h3' h4 h4'
        rw [HALL.out k hlt] at cc
        clear hMr hM1 k0 k1
        generalize A k = a at *
        generalize S k = s at *
        have f0 : ∀ p : Bl wr, p.W.cell? ⟨b, o + k * 2, none⟩ = some (.int .u32 a) := fun p => (p.h.cell (p := ⟨b, o + k * 2, none⟩) hbr).trans l0
        have f1 : ∀ p : Bl wr, p.W.cell? ⟨b, o + k * 2 + 1, none⟩ = some (.int .u32 s) := fun p => (p.h.cell (p := ⟨b, o + k * 2 + 1, none⟩) hbr).trans l1
        have f2 : ∀ p : Bl wr, p.W.cell? ⟨w.heap.size, 0, none⟩ = some (.int .u32 m0) := fun p => (p.h.cell (p := ⟨w.heap.size, 0, none⟩) hzr).trans d0
        have f3 : ∀ p : Bl wr, p.W.cell? ⟨w.heap.size, 1, none⟩ = some (.int .u32 m1) := fun p => (p.h.cell (p := ⟨w.heap.size, 1, none⟩) hzr).trans d1
        clear l0 l1 d0 d1
        go_wp2_with fail
        refine wp_region_bl (by kernel_rfl) (by kernel_rfl) ?_
        repeat (go_big_quiet_step ((go_at_call 15; with_reducible exact calls_bl (cc _))))
        refine wpQuiet_nil ?_
        intro w2 hw2
        obtain ⟨p, rfl⟩ := hw2
        go_wp2_with fail
        go_roundw
        case rel => exact ⟨k + 1, by omega, by go_num, hb.out.trans (p.h.mono hb.out.size)⟩
        case measure => simp [intOf]; omega
      · have : k = n := by omega
        subst this
        go_wp2_with fail
        refine (works_any _ (hT.below (hw1.trans (hb.out.mono hw1.size)))).mono ?_
        rintro e w4 ⟨rfl, hb4⟩
        go_wp2_with fail
        go_ret
        have hx := hw1.trans (hb.out.mono hw1.size)
        exact ⟨rfl, hx.trans (hb4.mono hx.size)⟩
  · -- it clashes with the k-th
    rw [hr] at ham
    have HALL : Hid (∀ j, j < k → ClashR (A j) (S j) m0 m1 = false) := hall
    have HP : Hid (ClashR (A k) (S k) m0 m1 = true) := hp
    clear hall hr hp
    rcases hM with rfl | ⟨b, o, rfl, hM⟩
    · exact absurd hk (Nat.not_lt_zero _)
    go_enter Tryd.func9, Tryd.ntmps9
    go_wp2_with fail
    refine ham.mono ?_
    rintro e w1 ⟨rfl, b1⟩
    have k0 : w1.cell? ⟨w.heap.size, 0, none⟩ = some (.int .u32 m0) := (b1.cell (p := ⟨w.heap.size, 0, none⟩) (by simp)).trans (by go_simp)
    have k1 : w1.cell? ⟨w.heap.size, 1, none⟩ = some (.int .u32 m1) := (b1.cell (p := ⟨w.heap.size, 1, none⟩) (by simp)).trans (by go_simp)
    have hw1 := hb0.trans (b1.mono (by simp))
    have hM1 := hM.below hw1 hM.1
    have hz : w.heap.size < w1.heap.size := World.block_lt_of_cell? w1 _ k0
    have hbz : b < w1.heap.size := hM1.1
    clear b1 hb0 ham hM
    have g1 : decide ((k : Int) < -1) = false := decide_eq_false (by omega)
    have g2 : decide (n ≤ k) = false := decide_eq_false (by omega)
    have g3 : (k : Int) < (n : Int) := by omega
    obtain ⟨l0, l1, r1, r2, r3, r4⟩ := hM1.2 k hk
    have cc := fun W : World => our_clash (A k) (S k) m0 m1 W r1 r2 r3 r4 h3 h3' h4 h4'
    rw [HP.out] at cc
    have f2 : ∀ p : Bl w1, p.W.cell? ⟨w.heap.size, 0, none⟩ = some (.int .u32 m0) := fun p => (p.h.cell (p := ⟨w.heap.size, 0, none⟩) hz).trans k0
    have f3 : ∀ p : Bl w1, p.W.cell? ⟨w.heap.size, 1, none⟩ = some (.int .u32 m1) := fun p => (p.h.cell (p := ⟨w.heap.size, 1, none⟩) hz).trans k1
    have f0 : ∀ p : Bl w1, p.W.cell? ⟨b, o + k * 2, none⟩ = some (.int .u32 (A k)) := fun p => (p.h.cell (p := ⟨b, o + k * 2, none⟩) hbz).trans l0
    have f1 : ∀ p : Bl w1, p.W.cell? ⟨b, o + k * 2 + 1, none⟩ = some (.int .u32 (S k)) := fun p => (p.h.cell (p := ⟨b, o + k * 2 + 1, none⟩) hbz).trans l1
    generalize A k = a at cc l0 r1 r2 f0
    generalize S k = s at cc l1 r3 r4 f1
    go_wp2_with fail
    refine wp_region_bl (by kernel_rfl) (by kernel_rfl) ?_
    repeat (go_big_quiet_step ((go_at_call 15; with_reducible exact calls_bl (cc _))))
    refine wpQuiet_nil ?_
    intro w2 hw2
    obtain ⟨p, rfl⟩ := hw2
    clear f0 f1 f2 f3 l0 l1 cc
    have hb2 := p.h
    generalize p.W = w2 at *
    go_wp2_with fail
    go_loopw [4, 6] (fun _ s6 wr => ∃ i : Nat, i ≤ k ∧ s6 = .int .i64 i ∧ Hid (Below w1.heap.size w1 wr)) (fun _ s6 _ => k - (intOf s6).toNat)
    case atStart => exact ⟨0, Nat.zero_le _, rfl, hb2⟩
    case round =>
      obtain ⟨i, hi, rfl, hb⟩ := hrel
      by_cases hlt : i < k
      · have hin : i < n := by omega
        have hMr := hM1.below hb.out hM1.1
        obtain ⟨l0, l1, r1, r2, r3, r4⟩ := hMr.2 i hin
        have d0 := (hb.out.cell (p := ⟨w.heap.size, 0, none⟩) hz).trans k0
        have d1 := (hb.out.cell (p := ⟨w.heap.size, 1, none⟩) hz).trans k1
        have hzr : w.heap.size < wr.heap.size := World.block_lt_of_cell? wr _ d0
        have hbr : b < wr.heap.size := hMr.1
        have cc := fun W : World => our_clash (A i) (S i) m0 m1 W r1 r2 r3 r4 h3 h3' h4 h4'
        rw [HALL.out i hlt] at cc
        clear hMr hM1 k0 k1
        generalize A i = a at *
        generalize S i = s at *
        have f0 : ∀ p : Bl wr, p.W.cell? ⟨b, o + i * 2, none⟩ = some (.int .u32 a) := fun p => (p.h.cell (p := ⟨b, o + i * 2, none⟩) hbr).trans l0
        have f1 : ∀ p : Bl wr, p.W.cell? ⟨b, o + i * 2 + 1, none⟩ = some (.int .u32 s) := fun p => (p.h.cell (p := ⟨b, o + i * 2 + 1, none⟩) hbr).trans l1
        have f2 : ∀ p : Bl wr, p.W.cell? ⟨w.heap.size, 0, none⟩ = some (.int .u32 m0) := fun p => (p.h.cell (p := ⟨w.heap.size, 0, none⟩) hzr).trans d0
        have f3 : ∀ p : Bl wr, p.W.cell? ⟨w.heap.size, 1, none⟩ = some (.int .u32 m1) := fun p => (p.h.cell (p := ⟨w.heap.size, 1, none⟩) hzr).trans d1
        clear l0 l1 d0 d1
        go_wp2_with fail
        refine wp_region_bl (by kernel_rfl) (by kernel_rfl) ?_
        repeat (go_big_quiet_step ((go_at_call 15; with_reducible exact calls_bl (cc _))))
        refine wpQuiet_nil ?_
        intro w2 hw2
        obtain ⟨p, rfl⟩ := hw2
        go_wp2_with fail
        go_roundw
        case rel => exact ⟨i + 1, by omega, by go_num, hb.out.trans (p.h.mono hb.out.size)⟩
        case measure => simp [intOf]; omega
      · have : i = k := by omega
        subst this
        go_wp2_with fail
        refine (works_any _ (hT.below (hw1.trans (hb.out.mono hw1.size)))).mono ?_
        rintro e w4 ⟨rfl, hb4⟩
        go_wp2_with fail
        go_ret
        have hx := hw1.trans (hb.out.mono hw1.size)
        exact ⟨rfl, hx.trans (hb4.mono hx.size)⟩
end Go.Proofs.YtniipdeonahoaaaDoor
