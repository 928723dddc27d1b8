/- The laws ShareLess and ShareWays, by walks over the contracts. -/
import Derived.Test.YtniipdeonahoaaaDoorW5
namespace Go.Proofs.YtniipdeonahoaaaDoor
open Go.RowKit

theorem bey_iff (a b : Nat) (ha : a < 4294967296) (hb : b < 4294967296) : Bey a b = true ↔ ∃ i, a.testBit i = true ∧ b.testBit i = false := by
  unfold Bey
  rw [u32_andNot_nat a b ha hb]
  simp only [bne_iff_ne, ne_eq]
  have e : (4294967295 - b) = 2 ^ 32 - (b + 1) := by omega
  have ht : ∀ i, (a &&& (4294967295 - b)).testBit i = (a.testBit i && (decide (i < 32) && !b.testBit i)) := fun i => by
    rw [Nat.testBit_and, e, Nat.testBit_two_pow_sub_succ (show b < 2 ^ 32 by omega)]
  constructor
  · intro h
    have h0 : a &&& (4294967295 - b) ≠ 0 := by omega
    obtain ⟨i, hi⟩ := Nat.exists_testBit_of_ne_zero h0
    rw [ht] at hi
    simp only [Bool.and_eq_true, Bool.not_eq_true', decide_eq_true_eq] at hi
    exact ⟨i, hi.1, hi.2.2⟩
  · rintro ⟨i, h1, h2⟩ h
    have h0 : a &&& (4294967295 - b) = 0 := by omega
    have hi : i < 32 := by
      rcases Nat.lt_or_ge i 32 with h | h
      · exact h
      · rw [Nat.testBit_lt_two_pow (Nat.lt_of_lt_of_le (show a < 2 ^ 32 by omega) (Nat.pow_le_pow_right (by omega) h))] at h1
        cases h1
    have := ht i
    rw [h0, h1, h2] at this
    simp [hi] at this

theorem bey_false (a b : Nat) (ha : a < 4294967296) (hb : b < 4294967296) : Bey a b = false ↔ ∀ i, a.testBit i = true → b.testBit i = true := by
  have h := bey_iff a b ha hb
  constructor
  · intro hf i hi
    cases hb' : b.testBit i
    · exact absurd (h.2 ⟨i, hi, hb'⟩) (by rw [hf]; exact Bool.false_ne_true)
    · rfl
  · intro hall
    cases hc : Bey a b
    · rfl
    · obtain ⟨i, h1, h2⟩ := h.1 hc
      rw [hall i h1] at h2
      cases h2

/-- Less access, more sharing: no clash where there was none. -/
theorem less_law (a0 a1 b0 b1 l m : Int) (h1 : 0 ≤ a0) (h1' : a0 ≤ 4294967295) (h2 : 0 ≤ a1) (h2' : a1 ≤ 4294967295) (h3 : 0 ≤ b0) (h3' : b0 ≤ 4294967295) (h4 : 0 ≤ b1) (h4' : b1 ≤ 4294967295)
    (h5 : 0 ≤ l) (h5' : l ≤ 4294967295) (h6 : 0 ≤ m) (h6' : m ≤ 4294967295) (hc : ClashR a0 a1 b0 b1 = false) : ClashR (bits .andNot .u32 a0 l) (bits .or .u32 a1 m) b0 b1 = false := by
  obtain ⟨a0, rfl⟩ := Int.eq_ofNat_of_zero_le h1
  obtain ⟨a1, rfl⟩ := Int.eq_ofNat_of_zero_le h2
  obtain ⟨b0, rfl⟩ := Int.eq_ofNat_of_zero_le h3
  obtain ⟨b1, rfl⟩ := Int.eq_ofNat_of_zero_le h4
  obtain ⟨l, rfl⟩ := Int.eq_ofNat_of_zero_le h5
  obtain ⟨m, rfl⟩ := Int.eq_ofNat_of_zero_le h6
  rw [u32_andNot_nat a0 l (by omega) (by omega), u32_or_nat a1 m (by omega) (by omega)]
  unfold ClashR at *
  rw [Bool.or_eq_false_iff] at *
  have k1 : a0 &&& (4294967295 - l) < 4294967296 := Nat.lt_of_le_of_lt Nat.and_le_left (by omega)
  have k2 : a1 ||| m < 4294967296 := Nat.or_lt_two_pow (n := 32) (by omega) (by omega)
  rw [bey_false _ _ (by omega) (by omega), bey_false _ _ (by omega) (by omega)] at hc
  rw [bey_false _ _ k1 (by omega), bey_false _ _ (by omega) k2]
  refine ⟨fun i hi => hc.1 i ?_, fun i hi => ?_⟩
  · rw [Nat.testBit_and, Bool.and_eq_true] at hi; exact hi.1
  · rw [Nat.testBit_or, hc.2 i hi, Bool.true_or]

theorem all_law (b0 : Int) (h3 : 0 ≤ b0) (h3' : b0 ≤ 4294967295) : ClashR 0 4294967295 b0 0 = false := by
  obtain ⟨b0, rfl⟩ := Int.eq_ofNat_of_zero_le h3
  unfold ClashR
  rw [Bool.or_eq_false_iff]
  have e0 : (0 : Int) = ((0 : Nat) : Int) := rfl
  have e1 : (4294967295 : Int) = ((4294967295 : Nat) : Int) := rfl
  refine ⟨?_, ?_⟩
  · rw [e0, bey_false 0 0 (by omega) (by omega)]; intro i hi; simp at hi
  · rw [e1, bey_false b0 4294967295 (by omega) (by omega)]
    intro i hi
    have hi32 : i < 32 := by
      rcases Nat.lt_or_ge i 32 with h | h
      · exact h
      · rw [Nat.testBit_lt_two_pow (Nat.lt_of_lt_of_le (show b0 < 2 ^ 32 by omega) (Nat.pow_le_pow_right (by omega) h))] at hi
        cases hi
    have : (4294967295 : Nat) = 2 ^ 32 - 1 := by omega
    rw [this, Nat.testBit_two_pow_sub_one]
    simpa using hi32

theorem andNot_in (a l : Int) (h1 : 0 ≤ a) (h1' : a ≤ 4294967295) (h5 : 0 ≤ l) (h5' : l ≤ 4294967295) : 0 ≤ bits .andNot .u32 a l ∧ bits .andNot .u32 a l ≤ 4294967295 := by
  rw [u32_andNot a l h1 (by omega) h5 (by omega)]
  have := Nat.and_le_left (n := a.toNat) (m := 4294967295 - l.toNat)
  omega
theorem or_in (a l : Int) (h1 : 0 ≤ a) (h1' : a ≤ 4294967295) (h5 : 0 ≤ l) (h5' : l ≤ 4294967295) : 0 ≤ bits .or .u32 a l ∧ bits .or .u32 a l ≤ 4294967295 := by
  rw [u32_or a l h1 (by omega) h5 (by omega)]
  have : a.toNat ||| l.toNat < 2 ^ 32 := Nat.or_lt_two_pow (by omega) (by omega)
  omega

/-- The end of the law: nobody clashes with what may be shared with all. -/
theorem less_end (b0 : Int) (w : World) (h3 : 0 ≤ b0) (h3' : b0 ≤ 4294967295) :
    Calls Tryd.prog 15 #[.agg #[.int .u32 0, .int .u32 4294967295], .agg #[.int .u32 b0, .int .u32 0]] w fun e w' => e = .returned (.bool false) ∧ Below w.heap.size w w' := by
  have := our_clash 0 4294967295 b0 0 w (by omega) (by omega) (by omega) (by omega) h3 h3' (by omega) (by omega)
  rw [all_law b0 h3 h3'] at this
  exact this

set_option maxHeartbeats 1000000 in
theorem ShareLess_walk (a0 a1 b0 b1 l m : Int) (w : World) (hT : Tab w) (h1 : 0 ≤ a0) (h1' : a0 ≤ 4294967295) (h2 : 0 ≤ a1) (h2' : a1 ≤ 4294967295) (h3 : 0 ≤ b0) (h3' : b0 ≤ 4294967295) (h4 : 0 ≤ b1) (h4' : b1 ≤ 4294967295)
    (h5 : 0 ≤ l) (h5' : l ≤ 4294967295) (h6 : 0 ≤ m) (h6' : m ≤ 4294967295) :
    Calls Tryd.prog 6 #[.agg #[.int .u32 a0, .int .u32 a1], .agg #[.int .u32 b0, .int .u32 b1], .int .u32 l, .int .u32 m] w fun e w' => e = .returned (.bool true) ∧ Below w.heap.size w w' := by
  have c1 := fun W : World => our_clash a0 a1 b0 b1 W h1 h1' h2 h2' h3 h3' h4 h4'
  obtain ⟨i1, i2⟩ := andNot_in a0 l h1 h1' h5 h5'
  obtain ⟨i3, i4⟩ := or_in a1 m h2 h2' h6 h6'
  have c2 := fun W : World => our_clash _ _ b0 b1 W i1 i2 i3 i4 h3 h3' h4 h4'
  have c3 := fun W : World => less_end b0 W h3 h3'
  have hl := less_law a0 a1 b0 b1 l m h1 h1' h2 h2' h3 h3' h4 h4' h5 h5' h6 h6'
  clear i1 i2 i3 i4
  generalize hx0 : bits .andNot .u32 a0 l = x0 at *
  generalize hx1 : bits .or .u32 a1 m = x1 at *
  have hz : w.heap.size ≤ (((w.alloc (.cells #[.int .u32 a0, .int .u32 a1] 31)).alloc (.cells #[.int .u32 b0, .int .u32 b1] 31)).alloc (.cells #[.int .u32 x0, .int .u32 x1] 31)).heap.size := by simp; omega
  have hb0 : Below w.heap.size w (((w.alloc (.cells #[.int .u32 a0, .int .u32 a1] 31)).alloc (.cells #[.int .u32 b0, .int .u32 b1] 31)).alloc (.cells #[.int .u32 x0, .int .u32 x1] 31)) :=
    (((Below.refl w.heap.size w).alloc (Nat.le_refl _) _).alloc (by simp) _).alloc (by simp; omega) _
  cases hq : ClashR a0 a1 b0 b1
  · rw [hq] at c1
    rw [hl hq] at c2
    clear hl
    go_enter Tryd.func6, Tryd.ntmps6
    go_wp2_with fail
    refine (c1 _).mono ?_
    rintro e w1 ⟨rfl, hb1⟩
    have k1 : w1.cell? ⟨w.heap.size + 1, 0, none⟩ = some (.int .u32 b0) := (hb1.cell (p := ⟨w.heap.size + 1, 0, none⟩) (by simp)).trans (by go_simp)
    have k2 : w1.cell? ⟨w.heap.size + 1, 1, none⟩ = some (.int .u32 b1) := (hb1.cell (p := ⟨w.heap.size + 1, 1, none⟩) (by simp)).trans (by go_simp)
    have k3 : w1.cell? ⟨w.heap.size + 2, 0, none⟩ = some (.int .u32 x0) := (hb1.cell (p := ⟨w.heap.size + 2, 0, none⟩) (by simp)).trans (by go_simp)
    have k4 : w1.cell? ⟨w.heap.size + 2, 1, none⟩ = some (.int .u32 x1) := (hb1.cell (p := ⟨w.heap.size + 2, 1, none⟩) (by simp)).trans (by go_simp)
    have hw1 := hb0.trans (hb1.mono hz)
    clear hb1 hb0 hz
    go_wp2_with fail
    refine (c2 _).mono ?_
    rintro e w2 ⟨rfl, hb2⟩
    have hz1 : w.heap.size + 2 < w1.heap.size := World.block_lt_of_cell? w1 _ k3
    have j1 : w2.cell? ⟨w.heap.size + 1, 0, none⟩ = some (.int .u32 b0) := (hb2.cell (p := ⟨w.heap.size + 1, 0, none⟩) (by show w.heap.size + 1 < _; omega)).trans k1
    have j2 : w2.cell? ⟨w.heap.size + 1, 1, none⟩ = some (.int .u32 b1) := (hb2.cell (p := ⟨w.heap.size + 1, 1, none⟩) (by show w.heap.size + 1 < _; omega)).trans k2
    have hz2 : w.heap.size + 1 < w2.heap.size := World.block_lt_of_cell? w2 _ j1
    have hw2 := hw1.trans (hb2.mono hw1.size)
    clear hb2 k1 k2 k3 k4
    go_wp2_with fail
    refine (c3 _).mono ?_
    rintro e w3 ⟨rfl, hb3⟩
    have hw3 := hw2.trans ((((Below.refl _ _).alloc (Nat.le_refl _) _).trans (hb3.mono (by simp))).mono hw2.size)
    go_wp2_with fail
    refine (works_any _ (hT.below hw3)).mono ?_
    rintro e w4 ⟨rfl, hb4⟩
    go_wp2_with fail
    go_ret
    exact ⟨rfl, hw3.trans (hb4.mono hw3.size)⟩
  · rw [hq] at c1
    clear hl
    go_enter Tryd.func6, Tryd.ntmps6
    go_wp2_with fail
    refine (c1 _).mono ?_
    rintro e w1 ⟨rfl, hb1⟩
    have j1 : w1.cell? ⟨w.heap.size + 1, 0, none⟩ = some (.int .u32 b0) := (hb1.cell (p := ⟨w.heap.size + 1, 0, none⟩) (by simp)).trans (by go_simp)
    have j2 : w1.cell? ⟨w.heap.size + 1, 1, none⟩ = some (.int .u32 b1) := (hb1.cell (p := ⟨w.heap.size + 1, 1, none⟩) (by simp)).trans (by go_simp)
    have hz1 : w.heap.size + 1 < w1.heap.size := World.block_lt_of_cell? w1 _ j1
    have hw2 := hb0.trans (hb1.mono hz)
    clear hb1 hb0 hz
    go_wp2_with fail
    refine (c3 _).mono ?_
    rintro e w3 ⟨rfl, hb3⟩
    have hw3 := hw2.trans ((((Below.refl _ _).alloc (Nat.le_refl _) _).trans (hb3.mono (by simp))).mono hw2.size)
    go_wp2_with fail
    refine (works_any _ (hT.below hw3)).mono ?_
    rintro e w4 ⟨rfl, hb4⟩
    go_wp2_with fail
    go_ret
    exact ⟨rfl, hw3.trans (hb4.mono hw3.size)⟩

/-- Does of one way, told for both answers of 'there'. -/
theorem ways_at (y k1 k2 k3 k4 : Int) (w : World) (hT : Tab w) (hy : 0 ≤ y) (h1 : DoesR y true = (k1, k2)) (h2 : DoesR y false = (k3, k4)) :
    (Calls Tryd.prog 13 #[.int .u32 y, .bool true] w fun e w' => e = .returned (.tuple #[.int .u8 k1, .int .i64 k2]) ∧ Below w.heap.size w w') ∧
    (∀ w, Tab w → Calls Tryd.prog 13 #[.int .u32 y, .bool false] w fun e w' => e = .returned (.tuple #[.int .u8 k3, .int .i64 k4]) ∧ Below w.heap.size w w') := by
  refine ⟨?_, fun w hT => ?_⟩
  · have := our_does y true w hT hy; rw [h1] at this; exact this
  · have := our_does y false w hT hy; rw [h2] at this; exact this

set_option maxHeartbeats 2000000 in
theorem ShareWays_walk (y : Int) (w : World) (hT : Tab w) (hy : 0 ≤ y) :
    Calls Tryd.prog 7 #[.int .u32 y] w fun e w' => e = .returned (.bool true) ∧ Below w.heap.size w w' := by
  have hc : y = 0 ∨ y = 1 ∨ y = 2 ∨ y = 3 ∨ y = 4 ∨ y = 5 ∨ 5 < y := by omega
  rcases hc with rfl | rfl | rfl | rfl | rfl | rfl | hc
  · obtain ⟨c1, c2⟩ := ways_at 0 0 2 0 2 w hT (by omega) (by decide) (by decide)
    go_enter Tryd.func7, Tryd.ntmps7
    go_wp2_with fail
    refine c1.mono ?_
    rintro e w1 ⟨rfl, hb1⟩
    go_wp2_with fail
    refine (c2 _ (hT.below hb1)).mono ?_
    rintro e w2 ⟨rfl, hb2⟩
    have hw2 := hb1.trans (hb2.mono hb1.size)
    go_wp2_with fail
    refine (works_any _ (hT.below hw2)).mono ?_
    rintro e w4 ⟨rfl, hb4⟩
    go_wp2_with fail
    go_ret
    exact ⟨rfl, hw2.trans (hb4.mono hw2.size)⟩
  · obtain ⟨c1, c2⟩ := ways_at 1 0 0 0 7 w hT (by omega) (by decide) (by decide)
    go_enter Tryd.func7, Tryd.ntmps7
    go_wp2_with fail
    refine c1.mono ?_
    rintro e w1 ⟨rfl, hb1⟩
    go_wp2_with fail
    refine (c2 _ (hT.below hb1)).mono ?_
    rintro e w2 ⟨rfl, hb2⟩
    have hw2 := hb1.trans (hb2.mono hb1.size)
    go_wp2_with fail
    refine (works_any _ (hT.below hw2)).mono ?_
    rintro e w4 ⟨rfl, hb4⟩
    go_wp2_with fail
    go_ret
    exact ⟨rfl, hw2.trans (hb4.mono hw2.size)⟩
  · obtain ⟨c1, c2⟩ := ways_at 2 0 8 1 0 w hT (by omega) (by decide) (by decide)
    go_enter Tryd.func7, Tryd.ntmps7
    go_wp2_with fail
    refine c1.mono ?_
    rintro e w1 ⟨rfl, hb1⟩
    go_wp2_with fail
    refine (c2 _ (hT.below hb1)).mono ?_
    rintro e w2 ⟨rfl, hb2⟩
    have hw2 := hb1.trans (hb2.mono hb1.size)
    go_wp2_with fail
    refine (works_any _ (hT.below hw2)).mono ?_
    rintro e w4 ⟨rfl, hb4⟩
    go_wp2_with fail
    go_ret
    exact ⟨rfl, hw2.trans (hb4.mono hw2.size)⟩
  · obtain ⟨c1, c2⟩ := ways_at 3 0 0 1 0 w hT (by omega) (by decide) (by decide)
    go_enter Tryd.func7, Tryd.ntmps7
    go_wp2_with fail
    refine c1.mono ?_
    rintro e w1 ⟨rfl, hb1⟩
    go_wp2_with fail
    refine (c2 _ (hT.below hb1)).mono ?_
    rintro e w2 ⟨rfl, hb2⟩
    have hw2 := hb1.trans (hb2.mono hb1.size)
    go_wp2_with fail
    refine (works_any _ (hT.below hw2)).mono ?_
    rintro e w4 ⟨rfl, hb4⟩
    go_wp2_with fail
    go_ret
    exact ⟨rfl, hw2.trans (hb4.mono hw2.size)⟩
  · obtain ⟨c1, c2⟩ := ways_at 4 2 0 0 7 w hT (by omega) (by decide) (by decide)
    go_enter Tryd.func7, Tryd.ntmps7
    go_wp2_with fail
    refine c1.mono ?_
    rintro e w1 ⟨rfl, hb1⟩
    go_wp2_with fail
    refine (c2 _ (hT.below hb1)).mono ?_
    rintro e w2 ⟨rfl, hb2⟩
    have hw2 := hb1.trans (hb2.mono hb1.size)
    go_wp2_with fail
    refine (works_any _ (hT.below hw2)).mono ?_
    rintro e w4 ⟨rfl, hb4⟩
    go_wp2_with fail
    go_ret
    exact ⟨rfl, hw2.trans (hb4.mono hw2.size)⟩
  · obtain ⟨c1, c2⟩ := ways_at 5 2 0 1 0 w hT (by omega) (by decide) (by decide)
    go_enter Tryd.func7, Tryd.ntmps7
    go_wp2_with fail
    refine c1.mono ?_
    rintro e w1 ⟨rfl, hb1⟩
    go_wp2_with fail
    refine (c2 _ (hT.below hb1)).mono ?_
    rintro e w2 ⟨rfl, hb2⟩
    have hw2 := hb1.trans (hb2.mono hb1.size)
    go_wp2_with fail
    refine (works_any _ (hT.below hw2)).mono ?_
    rintro e w4 ⟨rfl, hb4⟩
    go_wp2_with fail
    go_ret
    exact ⟨rfl, hw2.trans (hb4.mono hw2.size)⟩
  · obtain ⟨c1, c2⟩ := ways_at y 0 2 0 2 w hT hy (does_out y true (.inr hc)) (does_out y false (.inr hc))
    go_enter Tryd.func7, Tryd.ntmps7
    go_wp2_with fail
    refine c1.mono ?_
    rintro e w1 ⟨rfl, hb1⟩
    go_wp2_with fail
    refine (c2 _ (hT.below hb1)).mono ?_
    rintro e w2 ⟨rfl, hb2⟩
    have hw2 := hb1.trans (hb2.mono hb1.size)
    go_wp2_with fail
    refine (works_any _ (hT.below hw2)).mono ?_
    rintro e w4 ⟨rfl, hb4⟩
    go_wp2_with fail
    go_ret
    exact ⟨rfl, hw2.trans (hb4.mono hw2.size)⟩
end Go.Proofs.YtniipdeonahoaaaDoor
