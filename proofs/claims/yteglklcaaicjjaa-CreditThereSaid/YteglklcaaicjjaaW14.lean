/- Contract of breakPatterns, by a walk. -/
import Derived.Test.YteglklcaaicjjaaW13
import Derived.Test.YteglklcaaicjjaaW10
namespace Go.Proofs.Yteglklcaaicjjaa
open Go.RowKit Go.WideShapes

set_option maxRecDepth 100000 in
set_option maxHeartbeats 8000000 in
theorem brk_any (B : Nat) (w : World) (g n cap : Nat) (V : Array Int) (a b : Nat) (h : Vec B w g n cap V) (hab : a + 8 ≤ b) (hbn : b ≤ n) (hn : n ≤ 200) :
    Calls Try.prog 29 #[.slice (some ⟨g, 0, none⟩) n cap, .int .i64 a, .int .i64 b] w (PPost B g n cap V a b w) := by
  unfold PPost
  have H := Lib.hid h
  have HPR : Hid (Go.Sort.PermIn a b V V) := Go.Sort.permIn_refl V a b
  obtain ⟨L, hL⟩ : ∃ L, L = b - a := ⟨_, rfl⟩
  obtain ⟨q4, hq4⟩ : ∃ q, q = L / 4 := ⟨_, rfl⟩
  obtain ⟨p2, hp2⟩ : ∃ q, q = a + q4 * 2 := ⟨_, rfl⟩
  obtain ⟨e0, he0⟩ : ∃ q, q = p2 - 1 := ⟨_, rfl⟩
  obtain ⟨e2, he2⟩ : ∃ q, q = p2 + 1 := ⟨_, rfl⟩
  have i1 : IntKind.i64.wrap ((b : Int) - (a : Int)) = (L : Int) := by rw [IntWalk.i64_in _ (by omega)]; omega
  have i2 : IntKind.u64.wrap (L : Int) = (L : Int) := by simp [IntKind.wrap, IntKind.signed, IntKind.bits]; omega
  have i3 : (L : Int).tdiv 4 = (q4 : Int) := by rw [Int.tdiv_eq_ediv_of_nonneg (by omega)]; omega
  have i3b : (L : Int) / 4 = (q4 : Int) := by omega
  have i4 : IntKind.i64.wrap (q4 : Int) = (q4 : Int) := IntWalk.i64_in _ (by omega)
  have i5 : IntKind.i64.wrap ((q4 : Int) * 2) = (q4 : Int) * 2 := IntWalk.i64_in _ (by omega)
  have i6 : IntKind.i64.wrap ((a : Int) + (q4 : Int) * 2) = (p2 : Int) := by rw [IntWalk.i64_in _ (by omega)]; omega
  have i7 : IntKind.i64.wrap ((p2 : Int) - 1) = (e0 : Int) := by rw [IntWalk.i64_in _ (by omega)]; omega
  have i8 : IntKind.i64.wrap ((p2 : Int) + 1) = (e2 : Int) := by rw [IntWalk.i64_in _ (by omega)]; omega
  have c8 : (8 : Int) ≤ (L : Int) := by omega
  have hae : a ≤ e0 := by omega
  have heb : e2 < b := by omega
  have hee : e0 ≤ e2 := by omega
  have hL1 : L < 256 := by omega
  have hL0 : 0 < L := by omega
  have haL : a + L = b := by omega
  have hrb := Blk.new w 70 #[.int .u64 L]
  have HRB : Hid (Blk (w.alloc (.cells #[.int .u64 L] 70)) w.heap.size 70 #[.int .u64 L]) := hrb
  have hgr : g ≠ w.heap.size := by have := h.lt; omega
  have H1 : Hid (Vec B (w.alloc (.cells #[.int .u64 L] 70)) g n cap V) := h.fr ((Fr.refl none0 w).alloc _) (fun h => h)
  have F1 : Hid (Fr (fun j => j = g) w (w.alloc (.cells #[.int .u64 L] 70))) := (Fr.refl (fun j => j = g) w).alloc _
  have HGR := Lib.hid hgr
  clear h hL hq4 hp2 he0 he2 hrb hgr
  go_enter Try.func29, Try.ntmps29
  go_wp2_with fail
  generalize hw1 : w.alloc (.cells #[.int .u64 L] 70) = w1 at *
  have hsz : w.heap.size + 1 = w1.heap.size := by rw [← hw1]; simp
  clear hw1
  refine (npt_any w1 L hL1 hL0).mono ?_
  rintro e w1' ⟨m, rfl, hm1, hm2, rfl⟩
  obtain ⟨m1, hmm⟩ : ∃ q, q = m - 1 := ⟨_, rfl⟩
  have k1 : IntKind.u64.wrap ((m : Int) - 1) = (m1 : Int) := by simp [IntKind.wrap, IntKind.signed, IntKind.bits]; omega
  have hm1L : m1 < 2 * L := by omega
  have HSZ := Lib.hid hsz
  clear hmm hm1 hm2 hsz
  generalize hrbn : w.heap.size = rb at *
  have HRN := Lib.hid hrbn
  clear hrbn
  go_wp2_with fail
  go_loopw [9, 10] (fun s9 _ wr => ∃ (i : Nat) (z : Int) (U : Array Int), e0 ≤ i ∧ i ≤ e2 + 1 ∧ s9 = .int .i64 i ∧ Hid (Blk wr rb 70 #[.int .u64 z]) ∧ Hid (Go.Sort.PermIn a b V U) ∧ Hid (Vec B wr g n cap U) ∧ Hid (Fr (fun j => j = g) w wr)) (fun s9 _ _ => e2 + 1 - (intOf s9).toNat)
  case atStart => exact ⟨e0, L, V, Nat.le_refl _, by omega, by go_num, HRB.out, HPR.out, H1.out, F1.out⟩
  case round =>
    obtain ⟨i, z, U, hi1, hi2, rfl, hrb, hp, hv, hf⟩ := hrel
    by_cases hie : i ≤ e2
    · have j1 : (i : Int) ≤ (e2 : Int) := by omega
      clear hie
      go_wp2_with fail
      refine (xor_any wr rb z hrb.out).mono ?_
      rintro e w2 ⟨z2, rfl, hz0, hz1, hrb2, hf2⟩
      have HRB2 := Lib.hid hrb2
      have V_w2 : Hid (Vec B w2 g n cap U) := hv.out.fr hf2 HGR.out
      have F_w2 : Hid (Fr (fun j => j = g) w w2) := hf.out.trans hf2 (fun k hk e => by have := HRN.out; omega)
      obtain ⟨y, hy, hym⟩ : ∃ y : Nat, bits .and .u64 z2 (m1 : Int) = (y : Int) ∧ y ≤ m1 := by
        have h1 := bits_and_u64_nat z2.toNat m1 (by omega) (by omega)
        rw [Int.toNat_of_nonneg hz0] at h1
        exact ⟨_, h1, Nat.and_le_right⟩
      have j2 : IntKind.i64.wrap (y : Int) = (y : Int) := IntWalk.i64_in _ (by omega)
      clear hrb2 hf2 hz0 hz1
      by_cases hyL : L ≤ y
      · have j3 : (L : Int) ≤ (y : Int) := by omega
        obtain ⟨o, ho⟩ : ∃ o, o = y - L := ⟨_, rfl⟩
        have j4 : IntKind.i64.wrap ((y : Int) - (L : Int)) = (o : Int) := by rw [IntWalk.i64_in _ (by omega)]; omega
        have hoL : o < L := by omega
        obtain ⟨p, hpp⟩ : ∃ p, p = a + o := ⟨_, rfl⟩
        clear ho hyL
        have k2 : IntKind.i64.wrap ((a : Int) + (o : Int)) = (p : Int) := by rw [IntWalk.i64_in _ (by omega)]; omega
        have hpn : p < n := by omega
        have hin : i < n := by omega
        have q1 : (i : Int) < (n : Int) := by omega
        have q2 : (0 : Int) ≤ (i : Int) := by omega
        have q3 : (p : Int) < (n : Int) := by omega
        have q4' : (0 : Int) ≤ (p : Int) := by omega
        have d1 := V_w2.out.cell (i := i) hin
        have d2 := V_w2.out.cell (i := p) hpn
        obtain ⟨x, hx⟩ : ∃ x, U[i]! = x := ⟨_, rfl⟩
        obtain ⟨v, hv2⟩ : ∃ x, U[p]! = x := ⟨_, rfl⟩
        rw [hx] at d1
        rw [hv2] at d2
        have HX := Lib.hid hx
        have HY := Lib.hid hv2
        have HPS : Hid (Go.Sort.PermIn a b V (Go.Sort.swp U i p)) := Go.Sort.permIn_trans _ _ _ _ _ hp.out (Go.Sort.swp_permIn U a b i p (by omega) (by omega) (by omega) (by omega) (by rw [V_w2.out.size]; exact hbn))
        obtain ⟨f1, f2, ⟨z3, d3⟩, f3, HS⟩ := V_w2.out.swap (i := i) (j := p) (by omega) HX.out HY.out
        have HFS := Lib.hid (F_w2.out.swp (g := g) rfl i p (.int .u64 v) (.int .u64 x))
        have HRB3 : Hid (Blk ((w2.setCell ⟨g, i, none⟩ (.int .u64 v)).setCell ⟨g, p, none⟩ (.int .u64 x)) rb 70 #[.int .u64 z2]) := (HRB2.out.far (p := ⟨g, i, none⟩) (fun e => HGR.out e.symm) _).far (p := ⟨g, p, none⟩) (fun e => HGR.out e.symm) _
        clear hx hv2 hpp
        go_wp2_with fail
        go_region
        go_wp2_with fail
        go_roundw
        case rel => exact ⟨i + 1, z2, _, by omega, by omega, by go_num, HRB3.out, HPS.out, HS.out, HFS.out.drew⟩
        case measure => simp [intOf]; omega
      · have j3 : ¬ (L : Int) ≤ (y : Int) := by omega
        have hoL : y < L := by omega
        obtain ⟨p, hpp⟩ : ∃ p, p = a + y := ⟨_, rfl⟩
        clear hyL
        have k2 : IntKind.i64.wrap ((a : Int) + (y : Int)) = (p : Int) := by rw [IntWalk.i64_in _ (by omega)]; omega
        have hpn : p < n := by omega
        have hin : i < n := by omega
        have q1 : (i : Int) < (n : Int) := by omega
        have q2 : (0 : Int) ≤ (i : Int) := by omega
        have q3 : (p : Int) < (n : Int) := by omega
        have q4' : (0 : Int) ≤ (p : Int) := by omega
        have d1 := V_w2.out.cell (i := i) hin
        have d2 := V_w2.out.cell (i := p) hpn
        obtain ⟨x, hx⟩ : ∃ x, U[i]! = x := ⟨_, rfl⟩
        obtain ⟨v, hv2⟩ : ∃ x, U[p]! = x := ⟨_, rfl⟩
        rw [hx] at d1
        rw [hv2] at d2
        have HX := Lib.hid hx
        have HY := Lib.hid hv2
        have HPS : Hid (Go.Sort.PermIn a b V (Go.Sort.swp U i p)) := Go.Sort.permIn_trans _ _ _ _ _ hp.out (Go.Sort.swp_permIn U a b i p (by omega) (by omega) (by omega) (by omega) (by rw [V_w2.out.size]; exact hbn))
        obtain ⟨f1, f2, ⟨z3, d3⟩, f3, HS⟩ := V_w2.out.swap (i := i) (j := p) (by omega) HX.out HY.out
        have HFS := Lib.hid (F_w2.out.swp (g := g) rfl i p (.int .u64 v) (.int .u64 x))
        have HRB3 : Hid (Blk ((w2.setCell ⟨g, i, none⟩ (.int .u64 v)).setCell ⟨g, p, none⟩ (.int .u64 x)) rb 70 #[.int .u64 z2]) := (HRB2.out.far (p := ⟨g, i, none⟩) (fun e => HGR.out e.symm) _).far (p := ⟨g, p, none⟩) (fun e => HGR.out e.symm) _
        clear hx hv2 hpp
        go_wp2_with fail
        go_region
        go_wp2_with fail
        go_roundw
        case rel => exact ⟨i + 1, z2, _, by omega, by omega, by go_num, HRB3.out, HPS.out, HS.out, HFS.out.drew⟩
        case measure => simp [intOf]; omega
    · have j1 : ¬ (i : Int) ≤ (e2 : Int) := by omega
      clear hie
      go_wp2_with fail
      go_end0
      exact ⟨rfl, U, hp.out, hv.out, hf.out⟩
end Go.Proofs.Yteglklcaaicjjaa
