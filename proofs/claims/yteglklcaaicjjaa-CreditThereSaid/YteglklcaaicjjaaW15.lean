/- Contracts of the choice of the pivot, by walks. -/
import Derived.Test.YteglklcaaicjjaaW8
namespace Go.Proofs.Yteglklcaaicjjaa
open Go.RowKit Go.WideShapes

/-- The count of exchanges, and what stays. -/
def Cnt (sb : Nat) (s s' : Int) (w w' : World) : Prop := s ≤ s' ∧ Blk w' sb 3 #[.int .i64 s'] ∧ Fr (fun j => j = sb) w w'
theorem Cnt.trans {sb : Nat} {s s1 s2 : Int} {w w1 w2 : World} (h : Cnt sb s s1 w w1) (h' : Cnt sb s1 s2 w1 w2) : Cnt sb s s2 w w2 := ⟨by have := h.1; have := h'.1; omega, h'.2.1, h.2.2.step h'.2.2⟩

set_option maxHeartbeats 2000000 in
theorem ord_any (B : Nat) (w : World) (g n cap : Nat) (V : Array Int) (a b sb : Nat) (s : Int) (h : Vec B w g n cap V) (ha : a < n) (hb : b < n) (hs : Blk w sb 3 #[.int .i64 s]) (h0 : 0 ≤ s) (h1 : s ≤ 1000) :
    Calls Try.prog 44 #[.slice (some ⟨g, 0, none⟩) n cap, .int .i64 a, .int .i64 b, .pointer (some ⟨sb, 0, none⟩)] w fun e w' => ∃ (x y : Nat) (s' : Int), e = .returned (.tuple #[.int .i64 x, .int .i64 y]) ∧ ((x = a ∧ y = b) ∨ (x = b ∧ y = a)) ∧ s' ≤ s + 1 ∧ Cnt sb s s' w w' := by
  have da := h.cell ha
  have db := h.cell hb
  obtain ⟨x, hx⟩ : ∃ x, V[a]! = x := ⟨_, rfl⟩
  obtain ⟨y, hy⟩ : ∃ x, V[b]! = x := ⟨_, rfl⟩
  rw [hx] at da
  rw [hy] at db
  have HS := Lib.hid hs
  have i1 : (a : Int) < (n : Int) := by omega
  have i2 : (0 : Int) ≤ (a : Int) := by omega
  have i3 : (b : Int) < (n : Int) := by omega
  have i4 : (0 : Int) ≤ (b : Int) := by omega
  have i5 : IntKind.i64.wrap (s + 1) = s + 1 := IntWalk.i64_in _ (by omega)
  clear h hs hx hy
  cases hl : Go.Sort.ltInt y x with
  | true =>
    have HL := Lib.hid hl
    clear hl
    go_enter Try.func44, Try.ntmps44
    go_wp2_with fail
    go_quiet ((go_at_call 33; exact Calls.quiet_of_same (less_is _ y x true HL.out)))
    have hb2 : Blk (w.drewN nq) sb 3 #[.int .i64 s] := HS.out
    have c0 := hb2.cell 0
    have f0 := hb2.frozen 0
    have HC : Hid (Cnt sb s (s + 1) w ((w.drewN nq).setCell ⟨sb, 0, none⟩ (.int .i64 (s + 1)))) := ⟨by omega, hb2.set_ 0 _, ((Fr.refl (fun j => j = sb) w).drewN nq).setCell (p := ⟨sb, 0, none⟩) (fun _ => rfl) _⟩
    clear hb2
    go_wp2_with fail
    go_ret2
    exact ⟨b, a, s + 1, rfl, Or.inr ⟨rfl, rfl⟩, Int.le_refl _, HC.out⟩
  | false =>
    have HL := Lib.hid hl
    clear hl
    go_enter Try.func44, Try.ntmps44
    go_wp2_with fail
    go_quiet ((go_at_call 33; exact Calls.quiet_of_same (less_is _ y x false HL.out)))
    go_wp2_with fail
    go_ret2
    exact ⟨a, b, s, rfl, Or.inl ⟨rfl, rfl⟩, by omega, Int.le_refl _, HS.out, (Fr.refl _ _).drewN nq⟩

set_option maxHeartbeats 2000000 in
theorem med_any (B : Nat) (w : World) (g n cap : Nat) (V : Array Int) (a b c sb : Nat) (s : Int) (h : Vec B w g n cap V) (ha : a < n) (hb : b < n) (hc : c < n) (hs : Blk w sb 3 #[.int .i64 s]) (h0 : 0 ≤ s) (h1 : s ≤ 900) (hg : g ≠ sb) :
    Calls Try.prog 42 #[.slice (some ⟨g, 0, none⟩) n cap, .int .i64 a, .int .i64 b, .int .i64 c, .pointer (some ⟨sb, 0, none⟩)] w fun e w' => ∃ (x : Nat) (s' : Int), e = .returned (.int .i64 x) ∧ (x = a ∨ x = b ∨ x = c) ∧ s' ≤ s + 3 ∧ Cnt sb s s' w w' := by
  have H := Lib.hid h
  have HS := Lib.hid hs
  clear h hs
  go_enter Try.func42, Try.ntmps42
  go_wp2_with fail
  refine (ord_any B w g n cap V a b sb s H.out ha hb HS.out h0 (by omega)).mono ?_
  rintro e w1 ⟨x1, y1, s1, rfl, ho1, hs1, hc1⟩
  have HC1 := Lib.hid hc1
  have H1 : Hid (Vec B w1 g n cap V) := H.out.fr hc1.2.2 hg
  have hs10 := hc1.1
  have hx1 : x1 < n := by omega
  have hy1 : y1 < n := by omega
  have HO1 : Hid ((x1 = a ∧ y1 = b) ∨ (x1 = b ∧ y1 = a)) := ho1
  clear hc1 ho1
  go_wp2_with fail
  refine (ord_any B w1 g n cap V y1 c sb s1 H1.out hy1 hc HC1.out.2.1 (by omega) (by omega)).mono ?_
  rintro e w2 ⟨x2, y2, s2, rfl, ho2, hs2, hc2⟩
  have HC2 := Lib.hid hc2
  have H2 : Hid (Vec B w2 g n cap V) := H1.out.fr hc2.2.2 hg
  have hs20 := hc2.1
  have hx2 : x2 < n := by omega
  have HO2 : Hid ((x2 = y1 ∧ y2 = c) ∨ (x2 = c ∧ y2 = y1)) := ho2
  clear hc2 ho2
  go_wp2_with fail
  refine (ord_any B w2 g n cap V x1 x2 sb s2 H2.out hx1 hx2 HC2.out.2.1 (by omega) (by omega)).mono ?_
  rintro e w3 ⟨x3, y3, s3, rfl, ho3, hs3, hc3⟩
  have HC3 : Hid (Cnt sb s s3 w w3) := (HC1.out.trans HC2.out).trans hc3
  have HO3 : Hid ((x3 = x1 ∧ y3 = x2) ∨ (x3 = x2 ∧ y3 = x1)) := ho3
  have hs3' : s3 ≤ s + 3 := by omega
  clear hc3 ho3
  go_wp2_with fail
  go_ret
  refine ⟨y3, s3, rfl, ?_, hs3', HC3.out⟩
  have h1 := HO1.out
  have h2 := HO2.out
  have h3 := HO3.out
  omega

theorem adj_any (B : Nat) (w : World) (g n cap : Nat) (V : Array Int) (a sb : Nat) (s : Int) (h : Vec B w g n cap V) (ha0 : 1 ≤ a) (ha : a + 1 < n) (hn : n ≤ 1000000) (hs : Blk w sb 3 #[.int .i64 s]) (h0 : 0 ≤ s) (h1 : s ≤ 900) (hg : g ≠ sb) :
    Calls Try.prog 41 #[.slice (some ⟨g, 0, none⟩) n cap, .int .i64 a, .pointer (some ⟨sb, 0, none⟩)] w fun e w' => ∃ (x : Nat) (s' : Int), e = .returned (.int .i64 x) ∧ a ≤ x + 1 ∧ x ≤ a + 1 ∧ s' ≤ s + 3 ∧ Cnt sb s s' w w' := by
  obtain ⟨a0, ha0'⟩ : ∃ q, q = a - 1 := ⟨_, rfl⟩
  obtain ⟨a2, ha2⟩ : ∃ q, q = a + 1 := ⟨_, rfl⟩
  have i1 : IntKind.i64.wrap ((a : Int) - 1) = (a0 : Int) := by rw [IntWalk.i64_in _ (by omega)]; omega
  have i2 : IntKind.i64.wrap ((a : Int) + 1) = (a2 : Int) := by rw [IntWalk.i64_in _ (by omega)]; omega
  have H := Lib.hid h
  have HS := Lib.hid hs
  have l0 : a0 < n := by omega
  have l1 : a < n := by omega
  have l2 : a2 < n := by omega
  have HA0 := Lib.hid ha0'
  have HA2 := Lib.hid ha2
  clear h hs ha0' ha2
  go_enter Try.func41, Try.ntmps41
  go_wp2_with fail
  refine (med_any B w g n cap V a0 a a2 sb s H.out l0 l1 l2 HS.out h0 h1 hg).mono ?_
  rintro e w1 ⟨x, s1, rfl, hx, hs1, hc1⟩
  have HX : Hid (x = a0 ∨ x = a ∨ x = a2) := hx
  have HC := Lib.hid hc1
  clear hx hc1
  go_wp2_with fail
  go_ret
  have h1 := HX.out
  have h2 := HA0.out
  have h3 := HA2.out
  exact ⟨x, s1, rfl, by omega, by omega, hs1, HC.out⟩

/-- What the choice leaves. -/
def PivPost (a b : Nat) (w : World) (e : Ending) (w' : World) : Prop := ∃ (p : Nat) (t : Int), e = .returned (.tuple #[.int .i64 p, .int .i64 t]) ∧ a ≤ p ∧ p < b ∧ (t = 0 ∨ t = 1 ∨ t = 2) ∧ Fr none0 w w'
set_option maxHeartbeats 8000000 in
theorem piv_any (B : Nat) (w : World) (g n cap : Nat) (V : Array Int) (a b : Nat) (h : Vec B w g n cap V) (hab : a + 8 ≤ b) (hbn : b ≤ n) (hn : n ≤ 1000000) :
    Calls Try.prog 30 #[.slice (some ⟨g, 0, none⟩) n cap, .int .i64 a, .int .i64 b] w (PivPost a b w) := by
  unfold PivPost
  obtain ⟨L, hL⟩ : ∃ L, L = b - a := ⟨_, rfl⟩
  obtain ⟨q4, hq4⟩ : ∃ q, q = L / 4 := ⟨_, rfl⟩
  obtain ⟨i0, hi0⟩ : ∃ q, q = a + q4 := ⟨_, rfl⟩
  obtain ⟨j0, hj0⟩ : ∃ q, q = a + q4 * 2 := ⟨_, rfl⟩
  obtain ⟨k0, hk0⟩ : ∃ q, q = a + q4 * 3 := ⟨_, rfl⟩
  have i1 : IntKind.i64.wrap ((b : Int) - (a : Int)) = (L : Int) := by rw [IntWalk.i64_in _ (by omega)]; omega
  have i3 : (L : Int).tdiv 4 = (q4 : Int) := by rw [Int.tdiv_eq_ediv_of_nonneg (by omega)]; omega
  have i3b : (L : Int) / 4 = (q4 : Int) := by omega
  have i4 : IntKind.i64.wrap (q4 : Int) = (q4 : Int) := IntWalk.i64_in _ (by omega)
  have i5 : IntKind.i64.wrap ((q4 : Int) * 2) = (q4 : Int) * 2 := IntWalk.i64_in _ (by omega)
  have i5b : IntKind.i64.wrap ((q4 : Int) * 3) = (q4 : Int) * 3 := IntWalk.i64_in _ (by omega)
  have i6 : IntKind.i64.wrap ((a : Int) + (q4 : Int)) = (i0 : Int) := by rw [IntWalk.i64_in _ (by omega)]; omega
  have i7 : IntKind.i64.wrap ((a : Int) + (q4 : Int) * 2) = (j0 : Int) := by rw [IntWalk.i64_in _ (by omega)]; omega
  have i8 : IntKind.i64.wrap ((a : Int) + (q4 : Int) * 3) = (k0 : Int) := by rw [IntWalk.i64_in _ (by omega)]; omega
  have c8 : (8 : Int) ≤ (L : Int) := by omega
  have HBND : Hid (a + 2 ≤ i0 ∧ i0 + 2 ≤ b ∧ a + 2 ≤ j0 ∧ j0 + 2 ≤ b ∧ a + 2 ≤ k0 ∧ k0 + 2 ≤ b) := by show _ ∧ _; omega
  have HSB : Hid (Blk (w.alloc (.cells #[.int .i64 0] 3)) w.heap.size 3 #[.int .i64 0]) := Blk.new _ _ _
  have hg : g ≠ w.heap.size := by have := h.lt; omega
  have H1 : Hid (Vec B (w.alloc (.cells #[.int .i64 0] 3)) g n cap V) := h.fr ((Fr.refl none0 w).alloc _) (fun h => h)
  have F1 : Hid (Fr none0 w (w.alloc (.cells #[.int .i64 0] 3))) := (Fr.refl none0 w).alloc _
  by_cases hL50 : 50 ≤ L
  · have c50 : (50 : Int) ≤ (L : Int) := by omega
    clear h hL hq4 hi0 hj0 hk0 hL50
    go_enter Try.func30, Try.ntmps30
    go_wp2_with fail
    generalize hw1 : w.alloc (.cells #[.int .i64 0] 3) = w1 at *
    have HSZ : Hid (w1.heap.size = w.heap.size + 1) := by show _ = _; rw [← hw1]; simp
    clear hw1
    have b1 := HBND.out
    refine (adj_any B w1 g n cap V i0 w.heap.size 0 H1.out (by omega) (by omega) hn HSB.out (by omega) (by omega) hg).mono ?_
    rintro e w2 ⟨x1, s1, rfl, hx1, hx1b, hs1, hc1⟩
    have H2 : Hid (Vec B w2 g n cap V) := H1.out.fr hc1.2.2 hg
    have hs10 := hc1.1
    have HC1 := Lib.hid hc1
    clear hc1
    go_wp2_with fail
    refine (adj_any B w2 g n cap V j0 w.heap.size s1 H2.out (by omega) (by omega) hn HC1.out.2.1 (by omega) (by omega) hg).mono ?_
    rintro e w3 ⟨x2, s2, rfl, hx2, hx2b, hs2, hc2⟩
    have H3 : Hid (Vec B w3 g n cap V) := H2.out.fr hc2.2.2 hg
    have hs20 := hc2.1
    have HC2 : Hid (Cnt w.heap.size 0 s2 w1 w3) := HC1.out.trans hc2
    clear hc2
    go_wp2_with fail
    refine (adj_any B w3 g n cap V k0 w.heap.size s2 H3.out (by omega) (by omega) hn HC2.out.2.1 (by omega) (by omega) hg).mono ?_
    rintro e w4 ⟨x3, s3, rfl, hx3, hx3b, hs3, hc3⟩
    have H4 : Hid (Vec B w4 g n cap V) := H3.out.fr hc3.2.2 hg
    have hs30 := hc3.1
    have HC3 : Hid (Cnt w.heap.size 0 s3 w1 w4) := HC2.out.trans hc3
    clear hc3
    go_wp2_with fail
    refine (med_any B w4 g n cap V x1 x2 x3 w.heap.size s3 H4.out (by omega) (by omega) (by omega) HC3.out.2.1 (by omega) (by omega) hg).mono ?_
    rintro e w5 ⟨x, s, rfl, hx, hs5, hc5⟩
    have hc6 := HC3.out.trans hc5
    have hxa : a ≤ x := by omega
    have hxb : x < b := by omega
    have F5 : Hid (Fr none0 w w5) := F1.out.trans hc6.2.2 (fun k hk e => by omega)
    have c0 : w5.cell? ⟨w.heap.size, 0, none⟩ = some (.int .i64 s) := hc6.2.1.cell 0
    clear hx hc6 b1
    by_cases hs0 : s = 0
    · subst hs0
      go_wp2_with fail
      go_ret2
      exact ⟨x, 1, rfl, hxa, hxb, Or.inr (Or.inl rfl), F5.out⟩
    · by_cases hs12 : s = 12
      · subst hs12
        go_wp2_with fail
        go_ret2
        exact ⟨x, 2, rfl, hxa, hxb, Or.inr (Or.inr rfl), F5.out⟩
      · have e0 : (s == 0) = false := by simpa using hs0
        have e12 : (s == 12) = false := by simpa using hs12
        clear hs0 hs12
        go_wp2_with fail
        go_ret2
        exact ⟨x, 0, rfl, hxa, hxb, Or.inl rfl, F5.out⟩
  · have c50 : ¬ (50 : Int) ≤ (L : Int) := by omega
    clear h hL hq4 hi0 hj0 hk0 hL50
    go_enter Try.func30, Try.ntmps30
    go_wp2_with fail
    generalize hw1 : w.alloc (.cells #[.int .i64 0] 3) = w1 at *
    have HSZ : Hid (w1.heap.size = w.heap.size + 1) := by show _ = _; rw [← hw1]; simp
    clear hw1
    have b1 := HBND.out
    refine (med_any B w1 g n cap V i0 j0 k0 w.heap.size 0 H1.out (by omega) (by omega) (by omega) HSB.out (by omega) (by omega) hg).mono ?_
    rintro e w5 ⟨x, s, rfl, hx, hs5, hc6⟩
    have hxa : a ≤ x := by omega
    have hxb : x < b := by omega
    have F5 : Hid (Fr none0 w w5) := F1.out.trans hc6.2.2 (fun k hk e => by omega)
    have c0 : w5.cell? ⟨w.heap.size, 0, none⟩ = some (.int .i64 s) := hc6.2.1.cell 0
    clear hx hc6 b1
    by_cases hs0 : s = 0
    · subst hs0
      go_wp2_with fail
      go_ret2
      exact ⟨x, 1, rfl, hxa, hxb, Or.inr (Or.inl rfl), F5.out⟩
    · by_cases hs12 : s = 12
      · subst hs12
        go_wp2_with fail
        go_ret2
        exact ⟨x, 2, rfl, hxa, hxb, Or.inr (Or.inr rfl), F5.out⟩
      · have e0 : (s == 0) = false := by simpa using hs0
        have e12 : (s == 12) = false := by simpa using hs12
        clear hs0 hs12
        go_wp2_with fail
        go_ret2
        exact ⟨x, 0, rfl, hxa, hxb, Or.inl rfl, F5.out⟩
end Go.Proofs.Yteglklcaaicjjaa
