/- Contracts of Clash (both), of works, and of Among (both), by walks. -/
import Derived.Test.YtniipdeonahoaaaDoorW2
import Derived.Deep.LoopGhost
namespace Go.Proofs.YtniipdeonahoaaaDoor
open Go.RowKit

/-- Has a a bit that b has not? -/
def Bey (a b : Int) : Bool := bits .andNot .u32 a b != 0
def ClashR (a0 a1 b0 b1 : Int) : Bool := Bey a0 b1 || Bey b0 a1

theorem clash_or (a0 a1 b0 b1 : Int) (h1 : 0 ≤ a0) (h1' : a0 ≤ 4294967295) (h2 : 0 ≤ a1) (h2' : a1 ≤ 4294967295) (h3 : 0 ≤ b0) (h3' : b0 ≤ 4294967295) (h4 : 0 ≤ b1) (h4' : b1 ≤ 4294967295) :
    (bits .or .u32 (bits .andNot .u32 a0 b1) (bits .andNot .u32 b0 a1) != 0) = ClashR a0 a1 b0 b1 := by
  unfold ClashR Bey
  rw [u32_andNot a0 b1 h1 (by omega) h4 (by omega), u32_andNot b0 a1 h3 (by omega) h2 (by omega)]
  have l1 : a0.toNat &&& (4294967295 - b1.toNat) < 4294967296 := Nat.lt_of_le_of_lt Nat.and_le_left (by omega)
  have l2 : b0.toNat &&& (4294967295 - a1.toNat) < 4294967296 := Nat.lt_of_le_of_lt Nat.and_le_left (by omega)
  rw [u32_or_nat _ _ l1 l2]
  generalize a0.toNat &&& (4294967295 - b1.toNat) = x
  generalize b0.toNat &&& (4294967295 - a1.toNat) = y
  rw [Bool.eq_iff_iff]
  simp only [bne_iff_ne, ne_eq, Bool.or_eq_true]
  have : x ||| y = 0 ↔ x = 0 ∧ y = 0 := Nat.or_eq_zero_iff
  omega

theorem bey_any (a b : Int) (w : World) : Calls Tryd.prog 19 #[.int .u32 a, .int .u32 b] w fun e w' => e = .returned (.bool (Bey a b)) ∧ w = w' := by
  go_enter Tryd.func19, Tryd.ntmps19
  go_wp2
  go_ret
  exact ⟨rfl, rfl⟩

theorem our_clash (a0 a1 b0 b1 : Int) (w : World) (h1 : 0 ≤ a0) (h1' : a0 ≤ 4294967295) (h2 : 0 ≤ a1) (h2' : a1 ≤ 4294967295) (h3 : 0 ≤ b0) (h3' : b0 ≤ 4294967295) (h4 : 0 ≤ b1) (h4' : b1 ≤ 4294967295) :
    Calls Tryd.prog 15 #[.agg #[.int .u32 a0, .int .u32 a1], .agg #[.int .u32 b0, .int .u32 b1]] w fun e w' => e = .returned (.bool (ClashR a0 a1 b0 b1)) ∧ Below w.heap.size w w' := by
  have hc := clash_or a0 a1 b0 b1 h1 h1' h2 h2' h3 h3' h4 h4'
  go_enter Tryd.func15, Tryd.ntmps15
  go_wp2
  go_ret
  exact ⟨rfl, ((Below.refl _ _).alloc (Nat.le_refl _) _).alloc (by simp) _⟩

theorem ref_clash (a0 a1 b0 b1 : Int) (w : World) :
    Calls Tryd.prog 16 #[.agg #[.int .u32 a0, .int .u32 a1], .agg #[.int .u32 b0, .int .u32 b1]] w fun e w' => e = .returned (.bool (ClashR a0 a1 b0 b1)) ∧ Below w.heap.size w w' := by
  unfold ClashR
  cases hc : Bey a0 b1
  · go_enter Tryd.func16, Tryd.ntmps16
    go_wp2_with (first | (go_at_call 19; refine (bey_any _ _ _).mono ?_; rintro e w' ⟨rfl, rfl⟩))
    go_ret
    exact ⟨rfl, ((Below.refl _ _).alloc (Nat.le_refl _) _).alloc (by simp) _⟩
  · go_enter Tryd.func16, Tryd.ntmps16
    go_wp2_with (first | (go_at_call 19; refine (bey_any _ _ _).mono ?_; rintro e w' ⟨rfl, rfl⟩))
    go_ret
    exact ⟨rfl, ((Below.refl _ _).alloc (Nat.le_refl _) _).alloc (by simp) _⟩

theorem does5 (w : World) (h : Tab w) : Calls Tryd.prog 13 #[.int .u32 5, .bool true] w fun e w' => e = .returned (.tuple #[.int .u8 2, .int .i64 0]) ∧ Below w.heap.size w w' := by
  have := our_does_5true w h
  rw [show DoesR 5 true = (2, 0) by decide] at this
  exact this
theorem does2 (w : World) (h : Tab w) : Calls Tryd.prog 13 #[.int .u32 2, .bool true] w fun e w' => e = .returned (.tuple #[.int .u8 0, .int .i64 8]) ∧ Below w.heap.size w w' := by
  have := our_does_2true w h
  rw [show DoesR 2 true = (0, 8) by decide] at this
  exact this
theorem clash1 (w : World) : Calls Tryd.prog 15 #[.agg #[.int .u32 1, .int .u32 1], .agg #[.int .u32 2, .int .u32 1]] w fun e w' => e = .returned (.bool true) ∧ Below w.heap.size w w' := by
  have := our_clash 1 1 2 1 w (by omega) (by omega) (by omega) (by omega) (by omega) (by omega) (by omega) (by omega)
  rw [show ClashR 1 1 2 1 = true by decide] at this
  exact this
theorem may1 (w : World) : Calls Tryd.prog 10 #[.int .u32 1, .int .u32 0, .int .u32 4, .int .u32 0] w fun e w' => e = .returned (.bool false) ∧ w = w' := by
  have := our_may 1 0 4 0 w (by omega) (by omega) (by omega) (by omega) (by omega) (by omega) (by omega) (by omega)
  rw [show MayR 1 0 4 0 = false by decide] at this
  exact this

set_option maxHeartbeats 400000 in
theorem works_any (w : World) (h : Tab w) : Calls Tryd.prog 12 #[] w fun e w' => e = .returned (.bool true) ∧ Below w.heap.size w w' := by
  go_enter Tryd.func12, Tryd.ntmps12
  go_wp2_with fail
  refine (does5 _ h).mono ?_
  rintro e w1 ⟨rfl, b1⟩
  have h1 := h.below b1
  go_wp2_with fail
  refine (does2 _ h1).mono ?_
  rintro e w2 ⟨rfl, b2⟩
  have h2 := h1.below b2
  go_wp2_with fail
  refine (clash1 _).mono ?_
  rintro e w3 ⟨rfl, b3⟩
  go_wp2_with fail
  refine (may1 _).mono ?_
  rintro e w4 ⟨rfl, rfl⟩
  go_wp2_with fail
  go_ret
  exact ⟨rfl, (b1.trans (b2.mono b1.size)).trans (b3.mono (Nat.le_trans b1.size b2.size))⟩

/-- The slice's modes: A i what mode i may do, S i what others may. -/
def Modes (w : World) (b o n : Nat) (A S : Nat → Int) : Prop :=
  b < w.heap.size ∧ ∀ i, i < n → w.cell? ⟨b, o + i * 2, none⟩ = some (.int .u32 (A i)) ∧ w.cell? ⟨b, o + i * 2 + 1, none⟩ = some (.int .u32 (S i)) ∧ 0 ≤ A i ∧ A i ≤ 4294967295 ∧ 0 ≤ S i ∧ S i ≤ 4294967295
theorem Modes.below {w w' : World} {b o n : Nat} {A S : Nat → Int} {B : Nat} (h : Modes w b o n A S) (hb : Below B w w') (hB : b < B) : Modes w' b o n A S :=
  ⟨Nat.lt_of_lt_of_le h.1 hb.size, fun i hi => ⟨(hb.cell (p := ⟨b, _, none⟩) hB).trans (h.2 i hi).1, (hb.cell (p := ⟨b, _, none⟩) hB).trans (h.2 i hi).2.1, (h.2 i hi).2.2⟩⟩

/-- The first place below n at which p holds; -1: none. -/
def firstAt (p : Nat → Bool) (n : Nat) : Int := match (List.range n).find? p with | some i => (i : Int) | none => -1
theorem firstAt_hit (p : Nat → Bool) (n k : Nat) (hk : k < n) (hp : p k = true) (hb : ∀ j, j < k → p j = false) : firstAt p n = k := by
  unfold firstAt
  have : (List.range n).find? p = some k := by
    rw [List.find?_range_eq_some]
    exact ⟨hp, by simpa using hk, fun j hj => by simp [hb j hj]⟩
  rw [this]
theorem firstAt_miss (p : Nat → Bool) (n : Nat) (hb : ∀ j, j < n → p j = false) : firstAt p n = -1 := by
  unfold firstAt
  have : (List.range n).find? p = none := by
    rw [List.find?_range_eq_none]
    intro j hj
    simp [hb j hj]
  rw [this]

/-- The closure of Among: does a mode clash with the one that was captured? -/
theorem closure_any (a0 a1 m0 m1 : Int) (B : Nat) (w : World) (c0 : w.cell? ⟨B, 0, none⟩ = some (.int .u32 m0)) (c1 : w.cell? ⟨B, 1, none⟩ = some (.int .u32 m1))
    (h1 : 0 ≤ a0) (h1' : a0 ≤ 4294967295) (h2 : 0 ≤ a1) (h2' : a1 ≤ 4294967295) (h3 : 0 ≤ m0) (h3' : m0 ≤ 4294967295) (h4 : 0 ≤ m1) (h4' : m1 ≤ 4294967295) :
    Calls Tryd.prog 21 #[.agg #[.int .u32 a0, .int .u32 a1], .pointer (some ⟨B, 0, none⟩)] w fun e w' => e = .returned (.bool (ClashR a0 a1 m0 m1)) ∧ Below w.heap.size w w' := by
  have hB : B < w.heap.size := World.block_lt_of_cell? w _ c0
  go_enter Tryd.func21, Tryd.ntmps21
  go_wp2_with fail
  refine (our_clash _ _ _ _ _ h1 h1' h2 h2' h3 h3' h4 h4').mono ?_
  rintro e w1 ⟨rfl, b1⟩
  go_wp2_with fail
  go_ret
  exact ⟨rfl, ((Below.refl _ _).alloc (Nat.le_refl _) _).trans (b1.mono (by simp))⟩

set_option maxHeartbeats 400000 in
theorem indexFunc_any (b o n c : Nat) (A S : Nat → Int) (m0 m1 : Int) (B : Nat) (w : World) (hM : Modes w b o n A S) (hn : n ≤ 9223372036854775807)
    (c0 : w.cell? ⟨B, 0, none⟩ = some (.int .u32 m0)) (c1 : w.cell? ⟨B, 1, none⟩ = some (.int .u32 m1)) (h3 : 0 ≤ m0) (h3' : m0 ≤ 4294967295) (h4 : 0 ≤ m1) (h4' : m1 ≤ 4294967295) :
    Calls Tryd.prog 20 #[.slice (some ⟨b, o, none⟩) n c, .func (.func 21) #[] #[.pointer (some ⟨B, 0, none⟩)]] w fun e w' =>
      e = .returned (.int .i64 (firstAt (fun i => ClashR (A i) (S i) m0 m1) n)) ∧ Below w.heap.size w w' := by
  have hB : B < w.heap.size := World.block_lt_of_cell? w _ c0
  go_enter Tryd.func20, Tryd.ntmps20
  go_wp2
  go_loopw [5, 8] (fun _ s8 wr => ∃ k : Nat, k ≤ n ∧ s8 = .int .i64 k ∧ Hid (Below w.heap.size w wr) ∧ Hid (∀ j, j < k → ClashR (A j) (S j) m0 m1 = false)) (fun _ s8 _ => n - (intOf s8).toNat)
  case atStart => exact ⟨0, Nat.zero_le _, rfl, Below.refl _ _, fun j hj => absurd hj (Nat.not_lt_zero _)⟩
  case round =>
    obtain ⟨k, hk, rfl, hb, hf⟩ := hrel
    by_cases hlt : k < n
    · have hM' := hM.below hb.out hM.1
      obtain ⟨l0, l1, r1, r2, r3, r4⟩ := hM'.2 k hlt
      have d0 := (hb.out.cell (p := ⟨B, 0, none⟩) hB).trans c0
      have d1 := (hb.out.cell (p := ⟨B, 1, none⟩) hB).trans c1
      have hcl := closure_any (A k) (S k) m0 m1 B wr d0 d1 r1 r2 r3 r4 h3 h3' h4 h4'
      have hft := firstAt_hit (fun i => ClashR (A i) (S i) m0 m1) n k hlt
      clear hM' hM d0 d1 c0 c1
      generalize hAk : A k = a at *
      generalize hSk : S k = s at *
      have HA : Hid (A k = a ∧ S k = s) := ⟨hAk, hSk⟩
      clear hAk hSk
      cases hq : ClashR a s m0 m1
      · rw [hq] at hcl
        go_wp2_with fail
        refine hcl.mono ?_
        rintro e w1 ⟨rfl, b1⟩
        go_wp2_with fail
        go_roundw
        case rel =>
          refine ⟨k + 1, by omega, by go_num, hb.out.trans (b1.mono hb.out.size), (show Hid _ from fun j hj => ?_)⟩
          by_cases e : j = k
          · subst e; rw [HA.out.1, HA.out.2]; exact hq
          · exact hf.out j (by omega)
        case measure => simp [intOf]; omega
      · rw [hq] at hcl
        go_wp2_with fail
        refine hcl.mono ?_
        rintro e w1 ⟨rfl, b1⟩
        go_wp2_with fail
        go_ret
        refine ⟨?_, hb.out.trans (b1.mono hb.out.size)⟩
        rw [hft hq hf.out]
        rfl
    · have : k = n := by omega
      subst this
      go_wp2_with fail
      go_ret
      refine ⟨?_, hb.out⟩
      rw [firstAt_miss _ _ hf.out]
      rfl
end Go.Proofs.YtniipdeonahoaaaDoor
