/- The document's window in memory; contracts of Words, New and has, by walks. -/
import Derived.Test.YteglklcaaicjjaaW18
import Derived.Test.YteglklcaaicjjaaW3
namespace Go.Proofs.Yteglklcaaicjjaa
open Go.RowKit Go.Maps

theorem un_at {S : List Nat} {i : Nat} {x : Nat} (h : S[i]? = some x) : (un S)[i]? = some (.int .u64 (x : Int)) := by simp [un, ul, h]
theorem un_append (S T : List Nat) : un (S ++ T) = un S ++ un T := by simp [un, ul]
theorem un_inv {S : List Nat} {i : Nat} {v : Value} (h : (un S)[i]? = some v) : ∃ x, S[i]? = some x ∧ v = .int .u64 (x : Int) := by
  have hl : i < S.length := by have := (List.getElem?_eq_some_iff.1 h).1; rwa [un_len] at this
  have h2 := un_at (List.getElem?_eq_getElem hl)
  rw [h2] at h
  injection h with h
  exact ⟨_, List.getElem?_eq_getElem hl, h.symm⟩

theorem ret_bool {a b : Bool} (h : a = b) : Ending.returned (.bool a) = .returned (.bool b) := by rw [h]
/-- Words, at the same numbers. -/
theorem words_same (w : World) (ao bo : Option Addr) (n c c' : Nat) (S : List Nat) (ha : Src w 1 ao n (un S)) (hb : Src w 1 bo n (un S)) (hn : n ≤ 9223372036854775806) :
    Calls Try.prog 18 #[.slice ao n c, .slice bo n c'] w fun e w' => e = .returned (.bool true) ∧ Below w.heap.size w w' := by
  have HA := Lib.hid ha
  have HB := Lib.hid hb
  clear ha hb
  go_enter Try.func18, Try.ntmps18
  go_wp2_with fail
  go_loopw [4, 5] (fun _ s5 wr => ∃ k : Nat, k ≤ n ∧ s5 = .int .i64 k ∧ Hid (Fr none0 w wr)) (fun _ s _ => n - (intOf s).toNat)
  case atStart => exact ⟨0, Nat.zero_le _, rfl, Fr.refl _ _⟩
  case round =>
    obtain ⟨k, hk, rfl, hf⟩ := hrel
    by_cases hlt : k < n
    · have hk2 : (un S)[k]? = some ((un S)[k]'(by have := HA.out.1; omega)) := List.getElem?_eq_getElem _
      obtain ⟨z, _, hz⟩ := un_inv hk2
      rw [hz] at hk2
      obtain ⟨b, o, rfl, hbl, hc⟩ := HA.out.2 _ _ hk2
      obtain ⟨b', o', rfl, hbl', hc'⟩ := HB.out.2 _ _ hk2
      have d0 : wr.cell? ⟨b, o + k, none⟩ = some (.int .u64 (z : Int)) := (hf.out.cell (p := ⟨b, _, none⟩) hbl (fun h => h)).trans hc
      have d1 : wr.cell? ⟨b', o' + k, none⟩ = some (.int .u64 (z : Int)) := (hf.out.cell (p := ⟨b', _, none⟩) hbl' (fun h => h)).trans hc'
      have i1 : (0 : Int) ≤ (k : Int) := by omega
      have i2 : (k : Int) < (n : Int) := by omega
      clear hc hc' hz hk2
      go_wp2_with fail
      go_quiet (fail)
      go_wp2_with fail
      go_roundw
      case rel => exact ⟨k + 1, by omega, by go_num, hf.out.drewN _⟩
      case measure => simp [intOf]; omega
    · go_wp2_with fail
      go_ret
      exact ⟨rfl, hf.out.below (Nat.le_refl _) (fun _ h => h.elim)⟩

/-- THE DOCUMENT's WINDOW. -/
structure RfAt (B : Nat) (w : World) (rb : Nat) (most : Int) (next : Nat) (S : List Nat) (lo : Option Addr) (lc : Nat) : Prop where
  low : B ≤ rb
  blk : Blk w rb 46 #[.int .i64 most, .slice lo S.length lc, .int .u64 (next : Int)]
  row : Row B w 29 1 lo S.length lc (un S)
def RfA (B : Nat) (w : World) (rb : Nat) (most : Int) (next : Nat) (S : List Nat) : Prop := ∃ lo lc, RfAt B w rb most next S lo lc
section
variable {B : Nat} {w w' : World} {rb : Nat} {most : Int} {next : Nat} {S : List Nat} {lo : Option Addr} {lc : Nat}
theorem RfAt.fr {T : Nat → Prop} (h : RfAt B w rb most next S lo lc) (hf : Fr T w w') (h1 : ¬ T rb) (h2 : ∀ k, rowOf lo k → ¬ T k) : RfAt B w' rb most next S lo lc := ⟨h.low, h.blk.fr hf h1, h.row.fr hf h2⟩
theorem RfAt.below (h : RfAt B w rb most next S lo lc) (hf : Below w.heap.size w w') : RfAt B w' rb most next S lo lc := h.fr (Fr.of_below (T := none0) hf) (fun h => h) (fun _ _ h => h)
theorem RfA.below (h : RfA B w rb most next S) (hf : Below w.heap.size w w') : RfA B w' rb most next S := by
  obtain ⟨lo, lc, h⟩ := h
  exact ⟨lo, lc, h.below hf⟩
theorem RfAt.c0 (h : RfAt B w rb most next S lo lc) : w.cell? ⟨rb, 0, none⟩ = some (.int .i64 most) := h.blk.cell 0
theorem RfAt.c1 (h : RfAt B w rb most next S lo lc) : w.cell? ⟨rb, 1, none⟩ = some (.slice lo S.length lc) := h.blk.cell 1
theorem RfAt.c2 (h : RfAt B w rb most next S lo lc) : w.cell? ⟨rb, 2, none⟩ = some (.int .u64 (next : Int)) := h.blk.cell 2
theorem RfAt.elem (h : RfAt B w rb most next S lo lc) {i x : Nat} (hi : S[i]? = some x) : ∃ g, lo = some ⟨g, 0, none⟩ ∧ g < w.heap.size ∧ w.cell? ⟨g, i, none⟩ = some (.int .u64 (x : Int)) := by
  have hl : i < S.length := (List.getElem?_eq_some_iff.1 hi).1
  obtain ⟨g, rfl⟩ := h.row.form (by omega)
  refine ⟨g, rfl, h.row.lt, ?_⟩
  exact (h.row.cell (j := i) (by omega)).trans (un_at hi)
end

theorem rhas_any (B : Nat) (w : World) (rb : Nat) (most : Int) (next : Nat) (S : List Nat) (x : Nat) (h : RfA B w rb most next S) (hlen : S.length ≤ 64) :
    Calls Try.prog 24 #[.pointer (some ⟨rb, 0, none⟩), .int .u64 (x : Int)] w fun e w' => e = .returned (.bool (decide (x ∈ S))) ∧ w = w' := by
  obtain ⟨lo, lc, h⟩ := h
  obtain ⟨r, hr⟩ : ∃ r, decide (x ∈ S) = r := ⟨_, rfl⟩
  rw [hr]
  have HR := Lib.hid hr
  have H := Lib.hid h
  have c1 := h.c1
  clear h hr
  go_enter Try.func24, Try.ntmps24
  go_wp2_with fail
  go_loop [4, 5] (fun _ s5 => ∃ i : Nat, i ≤ S.length ∧ s5 = .int .i64 i ∧ Hid (∀ j y, j < i → S[j]? = some y → ¬ y = x)) (fun _ s => S.length - (intOf s).toNat)
  case atStart => exact ⟨0, Nat.zero_le _, rfl, fun j y hj => absurd hj (Nat.not_lt_zero _)⟩
  case round =>
    obtain ⟨i, hi, rfl, hno⟩ := hrel
    by_cases hlt : i < S.length
    · have hi2 : S[i]? = some S[i] := List.getElem?_eq_getElem hlt
      obtain ⟨g, rfl, _, d0⟩ := H.out.elem hi2
      have HI := Lib.hid hi2
      have hi3 : (i : Int) < (S.length : Int) := by omega
      clear hi2
      generalize S[i] = y at *
      by_cases hq : y = x
      · have HH : Hid (true = r) := by
          show _ = _
          rw [← HR.out]
          have := List.mem_of_getElem? HI.out
          rw [hq] at this
          simpa using this
        subst hq
        clear hno
        go_wp2_with fail
        go_ret
        exact ⟨ret_bool HH.out, rfl⟩
      · have HN : Hid (∀ j z, j < i + 1 → S[j]? = some z → ¬ z = x) := fun j z hj hz => by
          rcases Nat.lt_succ_iff_lt_or_eq.1 hj with h | h
          · exact hno.out j z h hz
          · subst h; rw [HI.out] at hz; injection hz with hz; subst hz; exact hq
        have e2 : ¬ (y : Int) = (x : Int) := by omega
        have e1 : ((y : Int) == (x : Int)) = false := by simpa using e2
        clear hq hno
        go_wp2_with fail
        go_round
        case rel => exact ⟨i + 1, by omega, by go_num, HN.out⟩
        case measure => simp [intOf]; omega
    · have HH : Hid (false = r) := by
        show _ = _
        rw [← HR.out]
        symm
        simp only [decide_eq_false_iff_not]
        intro hm
        obtain ⟨j, hj⟩ := List.mem_iff_getElem?.1 hm
        exact hno.out j x (by have := (List.getElem?_eq_some_iff.1 hj).1; omega) hj rfl
      have hi3 : ¬ (i : Int) < (S.length : Int) := by omega
      clear hno
      go_wp2_with fail
      go_ret
      exact ⟨ret_bool HH.out, rfl⟩

theorem rnew_bad (m : Int) (w : World) (h : m < 1 ∨ 64 < m) : Calls Try.prog 20 #[.int .i64 m] w fun e w' => e = .returned (.tuple #[.pointer none, .int .i64 2]) ∧ w = w' := by
  by_cases h1 : m < 1
  · go_enter Try.func20, Try.ntmps20
    go_wp2
    go_ret2
    exact ⟨rfl, rfl⟩
  · have h2 : 64 < m := by omega
    clear h
    go_enter Try.func20, Try.ntmps20
    go_wp2
    go_ret2
    exact ⟨rfl, rfl⟩

theorem rnew_good (m : Int) (w : World) (h1 : 1 ≤ m) (h2 : m ≤ 64) : Calls Try.prog 20 #[.int .i64 m] w fun e w' => ∃ rb, e = .returned (.tuple #[.pointer (some ⟨rb, 0, none⟩), .int .i64 0]) ∧ RfA w.heap.size w' rb m 1 [0] ∧ Below w.heap.size w w' := by
  go_enter Try.func20, Try.ntmps20
  go_wp2
  go_ret2
  have hb1 : Below w.heap.size w (w.alloc (.cells #[.int .u64 0] 29)) := (Below.refl _ _).alloc (Nat.le_refl _) _
  have hr : Row w.heap.size (w.alloc (.cells #[.int .u64 0] 29)) 29 1 (some ⟨w.heap.size, 0, none⟩) 1 1 [.int .u64 0] := World.ownsRow_lit w #[.int .u64 0] 1 (Nat.le_refl _) (by decide) rfl
  have e : (w.alloc (.cells #[.int .u64 0] 29)).heap.size = w.heap.size + 1 := by simp
  have hbk := Blk.new (w.alloc (.cells #[.int .u64 0] 29)) 46 #[.int .i64 m, .slice (some ⟨w.heap.size, 0, none⟩) 1 1, .int .u64 1]
  rw [e] at hbk
  exact ⟨_, rfl, ⟨some ⟨w.heap.size, 0, none⟩, 1, Nat.le_succ _, hbk, hr.fr ((Fr.refl none0 _).alloc _) (fun _ _ h => h)⟩, hb1.alloc hb1.size _⟩
end Go.Proofs.Yteglklcaaicjjaa
