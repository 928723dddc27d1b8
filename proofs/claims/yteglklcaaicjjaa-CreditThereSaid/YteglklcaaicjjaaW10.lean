/- Contracts of the heap sort and of the reversal, by walks. -/
import Derived.Test.YteglklcaaicjjaaW9
namespace Go.Proofs.Yteglklcaaicjjaa
open Go.RowKit Go.WideShapes

set_option maxRecDepth 100000 in
set_option maxHeartbeats 8000000 in
theorem heap_any (B : Nat) (w : World) (g n cap : Nat) (V : Array Int) (a b : Nat) (h : Vec B w g n cap V) (hab : a < b) (hbn : b ≤ n) (hn : n ≤ 1000000) :
    Calls Try.prog 28 #[.slice (some ⟨g, 0, none⟩) n cap, .int .i64 a, .int .i64 b] w (VPost B g n cap (Go.Sort.heapSort Go.Sort.ltInt V a b) w) := by
  unfold VPost
  obtain ⟨T, hT⟩ : ∃ T, Go.Sort.heapSort Go.Sort.ltInt V a b = T := ⟨_, rfl⟩
  rw [hT]
  obtain ⟨m, hm⟩ : ∃ m, m = b - a := ⟨_, rfl⟩
  obtain ⟨T1, hT1⟩ : ∃ T, Go.Sort.heapBuild Go.Sort.ltInt m a ((m - 1) / 2 + 1) V = T := ⟨_, rfl⟩
  have HT : Hid (Go.Sort.heapPop Go.Sort.ltInt a m T1 = T) := by
    show _ = _
    rw [← hT1, ← hT, hm]
    rfl
  have HT1 := Lib.hid hT1
  have H := Lib.hid h
  have i1 : IntKind.i64.wrap ((b : Int) - (a : Int)) = (m : Int) := by rw [IntWalk.i64_in _ (by omega)]; omega
  have i2 : IntKind.i64.wrap ((m : Int) - 1) = ((m - 1 : Nat) : Int) := by rw [IntWalk.i64_in _ (by omega)]; omega
  obtain ⟨m1, hm1⟩ : ∃ m1, m1 = m - 1 := ⟨_, rfl⟩
  rw [← hm1] at i2 HT1
  have i3 : IntKind.i64.wrap ((m1 : Int).tdiv 2) = ((m1 / 2 : Nat) : Int) := by
    rw [Int.tdiv_eq_ediv_of_nonneg (by omega), IntWalk.i64_in _ (by omega)]; omega
  have i3b : (m1 : Int).tdiv 2 = ((m1 / 2 : Nat) : Int) := by
    rw [Int.tdiv_eq_ediv_of_nonneg (by omega)]; omega
  have i3c : (m1 : Int) / 2 = ((m1 / 2 : Nat) : Int) := by omega
  obtain ⟨k0, hk0⟩ : ∃ k, k = m1 / 2 := ⟨_, rfl⟩
  rw [← hk0] at i3 i3b i3c HT1
  have i4 : IntKind.i64.wrap (k0 : Int) = (k0 : Int) := IntWalk.i64_in _ (by omega)
  have hkm : k0 + 1 ≤ n := by omega
  have hamn : a + m ≤ n := by omega
  have HM := Lib.hid hm
  have HM1 := Lib.hid hm1
  clear h hT hT1 hk0 hm
  go_enter Try.func28, Try.ntmps28
  go_wp2_with fail
  go_loopw [9] (fun s9 wr => ∃ (k : Nat) (z : Int) (U : Array Int), k ≤ n ∧ z = (k : Int) - 1 ∧ s9 = .int .i64 z ∧ Hid (Go.Sort.heapBuild Go.Sort.ltInt m a k U = T1) ∧ Hid (Vec B wr g n cap U) ∧ Hid (Fr (fun j => j = g) w wr)) (fun s9 _ => (intOf s9 + 1).toNat)
  case atStart => exact ⟨k0 + 1, k0, V, hkm, by omega, by go_num, HT1.out, H.out, Fr.refl _ _⟩
  case round =>
    obtain ⟨k, z, U, hkn, hz, rfl, ht, hv, hf⟩ := hrel
    by_cases hk : k = 0
    · have hz1 : ¬ 0 ≤ z := by omega
      have HU : Hid (U = T1) := by
        show _ = _
        rw [← ht.out, hk]
        rfl
      clear hz hk
      go_wp2_with fail
      go_loopw [10] (fun s10 wr => ∃ (k : Nat) (z : Int) (U : Array Int), k ≤ m ∧ z = (k : Int) - 1 ∧ s10 = .int .i64 z ∧ Hid (Go.Sort.heapPop Go.Sort.ltInt a k U = T) ∧ Hid (Vec B wr g n cap U) ∧ Hid (Fr (fun j => j = g) w wr)) (fun s10 _ => (intOf s10 + 1).toNat)
      case atStart => exact ⟨m, m1, U, Nat.le_refl _, by have := HM1.out; have := HM.out; omega, by go_num, by rw [HU.out]; exact HT.out, hv.out, hf.out⟩
      case round =>
        obtain ⟨k, z, U2, hkn2, hz, rfl, ht2, hv2, hf2⟩ := hrel
        by_cases hk : k = 0
        · have hz1 : ¬ 0 ≤ z := by omega
          have HU2 : Hid (U2 = T) := by
            show _ = _
            rw [← ht2.out, hk]
            rfl
          clear hz hk
          go_wp2_with fail
          go_end0
          rw [← HU2.out]
          exact ⟨rfl, hv2.out, hf2.out⟩
        · obtain ⟨k', hk'⟩ : ∃ k', k = k' + 1 := ⟨k - 1, by omega⟩
          have hzk : z = (k' : Int) := by omega
          subst hzk
          have hz0 : (0 : Int) ≤ (k' : Int) := by omega
          have hz2 : IntKind.i64.wrap ((k' : Int) - 1) = (k' : Int) - 1 := IntWalk.i64_in _ (by omega)
          have HK := Lib.hid hk'
          obtain ⟨p, hp⟩ : ∃ p, p = a + k' := ⟨_, rfl⟩
          have j1 : IntKind.i64.wrap ((a : Int) + (k' : Int)) = (p : Int) := by rw [IntWalk.i64_in _ (by omega)]; omega
          have q1 : (a : Int) < (n : Int) := by omega
          have q2 : (0 : Int) ≤ (a : Int) := by omega
          have q3 : (p : Int) < (n : Int) := by omega
          have q4 : (0 : Int) ≤ (p : Int) := by omega
          have hpn : p < n := by omega
          have d1 := hv2.out.cell (i := a) (by omega)
          have d2 := hv2.out.cell (i := p) hpn
          obtain ⟨x, hx⟩ : ∃ x, U2[a]! = x := ⟨_, rfl⟩
          obtain ⟨y, hy⟩ : ∃ x, U2[p]! = x := ⟨_, rfl⟩
          rw [hx] at d1
          rw [hy] at d2
          have HX := Lib.hid hx
          have HY := Lib.hid hy
          have HT2 : Hid (Go.Sort.heapPop Go.Sort.ltInt a k' (Go.Sort.siftDown Go.Sort.ltInt k' a 0 (Go.Sort.swp U2 a p)) = T) := by
            show _ = _
            rw [← ht2.out, hk', hp]
            rfl
          have hak : a + k' ≤ n := by omega
          have hkk : k' ≤ m := by omega
          have HP := Lib.hid hp
          have V_wr : Hid (Vec B wr g n cap U2) := hv2.out
          have F_wr : Hid (Fr (fun j => j = g) w wr) := hf2.out
          clear hx hy hk' hz hk hp
          obtain ⟨f1, f2, ⟨z3, d3⟩, f3, HS⟩ := V_wr.out.swap (i := a) (j := p) (by omega) HX.out HY.out
          have HFS := Lib.hid (F_wr.out.swp (g := g) rfl a p (.int .u64 y) (.int .u64 x))
          by_cases hap : a = p
          · subst hap
            have hxy : x = y := HX.out.symm.trans HY.out
            subst hxy
            go_wp2_with fail
            go_region
            go_wp2_with fail
            refine (sift_any B _ g n cap (Go.Sort.swp U2 a a) 0 k' a (HS.out.fr ((Fr.refl none0 _).drew) (fun h => h)) hak (by omega) hn).mono ?_
            rintro e w5 ⟨rfl, hv5, hf5⟩
            have HV5 := Lib.hid hv5
            have HF5 : Hid (Fr (fun j => j = g) w w5) := HFS.out.drew.step hf5
            clear hv5 hf5
            go_wp2_with fail
            go_roundw
            case rel => exact ⟨k', (k' : Int) - 1, _, hkk, rfl, by go_num, HT2.out, HV5.out, HF5.out⟩
            case measure => first | (simp [intOf]; done) | (simp [intOf]; omega)
          · go_wp2_with fail
            go_region
            go_wp2_with fail
            refine (sift_any B _ g n cap (Go.Sort.swp U2 a p) 0 k' a (HS.out.fr ((Fr.refl none0 _).drew) (fun h => h)) hak (by omega) hn).mono ?_
            rintro e w5 ⟨rfl, hv5, hf5⟩
            have HV5 := Lib.hid hv5
            have HF5 : Hid (Fr (fun j => j = g) w w5) := HFS.out.drew.step hf5
            clear hv5 hf5
            go_wp2_with fail
            go_roundw
            case rel => exact ⟨k', (k' : Int) - 1, _, hkk, rfl, by go_num, HT2.out, HV5.out, HF5.out⟩
            case measure => first | (simp [intOf]; done) | (simp [intOf]; omega)
    · obtain ⟨k', hk'⟩ : ∃ k', k = k' + 1 := ⟨k - 1, by omega⟩
      have hzk : z = (k' : Int) := by omega
      subst hzk
      have hz0 : (0 : Int) ≤ (k' : Int) := by omega
      have hz2 : IntKind.i64.wrap ((k' : Int) - 1) = (k' : Int) - 1 := IntWalk.i64_in _ (by omega)
      have HT2 : Hid (Go.Sort.heapBuild Go.Sort.ltInt m a k' (Go.Sort.siftDown Go.Sort.ltInt m a k' U) = T1) := by
        show _ = _
        rw [← ht.out, hk']
        rfl
      have hkk : k' ≤ n := by omega
      clear hk' hz hk
      go_wp2_with fail
      refine (sift_any B wr g n cap U k' m a hv.out hamn hkk hn).mono ?_
      rintro e w5 ⟨rfl, hv5, hf5⟩
      have HV5 := Lib.hid hv5
      have HF5 : Hid (Fr (fun j => j = g) w w5) := hf.out.step hf5
      clear hv5 hf5
      go_wp2_with fail
      go_roundw
      case rel => exact ⟨k', (k' : Int) - 1, _, hkk, rfl, by go_num, HT2.out, HV5.out, HF5.out⟩
      case measure => first | (simp [intOf]; done) | (simp [intOf]; omega)

/-- What a function that only permutes a part leaves. -/
def PPost (B g n cap : Nat) (V : Array Int) (a b : Nat) (w : World) (e : Ending) (w' : World) : Prop := e = .returned (.tuple #[]) ∧ ∃ U, Go.Sort.PermIn a b V U ∧ Vec B w' g n cap U ∧ Fr (fun j => j = g) w w'
set_option maxRecDepth 100000 in
set_option maxHeartbeats 4000000 in
theorem rev_any (B : Nat) (w : World) (g n cap : Nat) (V : Array Int) (a b : Nat) (h : Vec B w g n cap V) (hab : a < b) (hbn : b ≤ n) (hn : n ≤ 1000000) :
    Calls Try.prog 31 #[.slice (some ⟨g, 0, none⟩) n cap, .int .i64 a, .int .i64 b] w (PPost B g n cap V a b w) := by
  unfold PPost
  have H := Lib.hid h
  have HPR : Hid (Go.Sort.PermIn a b V V) := Go.Sort.permIn_refl V a b
  obtain ⟨b1, hb1⟩ : ∃ b1, b = b1 + 1 := ⟨b - 1, by omega⟩
  have i1 : IntKind.i64.wrap ((b : Int) - 1) = (b1 : Int) := by rw [IntWalk.i64_in _ (by omega)]; omega
  have HB := Lib.hid hb1
  have hb1n : b1 < n := by omega
  clear h hb1
  go_enter Try.func31, Try.ntmps31
  go_wp2_with fail
  go_loopw [6, 7] (fun s6 s7 wr => ∃ (i j : Nat) (U : Array Int), a ≤ i ∧ i ≤ n ∧ j < b ∧ s6 = .int .i64 i ∧ s7 = .int .i64 j ∧ Hid (Go.Sort.PermIn a b V U) ∧ Hid (Vec B wr g n cap U) ∧ Hid (Fr (fun j => j = g) w wr)) (fun s6 s7 _ => (intOf s7).toNat - (intOf s6).toNat)
  case atStart => exact ⟨a, b1, V, Nat.le_refl _, by omega, by have := HB.out; omega, rfl, by go_num, HPR.out, H.out, Fr.refl _ _⟩
  case round =>
    obtain ⟨i, j, U, hai, hin, hjb, rfl, rfl, hp, hv, hf⟩ := hrel
    by_cases hij : i < j
    · have i2 : (i : Int) < (j : Int) := by omega
      have q1 : (i : Int) < (n : Int) := by omega
      have q2 : (0 : Int) ≤ (i : Int) := by omega
      have q3 : (j : Int) < (n : Int) := by omega
      have q4 : (0 : Int) ≤ (j : Int) := by omega
      have hjn : j < n := by omega
      have d1 := hv.out.cell (i := i) (by omega)
      have d2 := hv.out.cell (i := j) (by omega)
      obtain ⟨x, hx⟩ : ∃ x, U[i]! = x := ⟨_, rfl⟩
      obtain ⟨y, hy⟩ : ∃ x, U[j]! = x := ⟨_, rfl⟩
      rw [hx] at d1
      rw [hy] at d2
      have HX := Lib.hid hx
      have HY := Lib.hid hy
      have hsz := hv.out.size
      have hsz0 := H.out.size
      have HPS : Hid (Go.Sort.PermIn a b V (Go.Sort.swp U i j)) := Go.Sort.permIn_trans _ _ _ _ _ hp.out (Go.Sort.swp_permIn U a b i j hai (by omega) (by omega) hjb (by omega))
      have V_wr : Hid (Vec B wr g n cap U) := hv.out
      have F_wr : Hid (Fr (fun j => j = g) w wr) := hf.out
      obtain ⟨j', hj'⟩ : ∃ j', j = j' + 1 := ⟨j - 1, by omega⟩
      have i3 : IntKind.i64.wrap ((j : Int) - 1) = (j' : Int) := by rw [IntWalk.i64_in _ (by omega)]; omega
      have HJ := Lib.hid hj'
      clear hx hy hsz hsz0 hj'
      obtain ⟨f1, f2, ⟨z3, d3⟩, f3, HS⟩ := V_wr.out.swap (i := i) (j := j) (by omega) HX.out HY.out
      have HFS := Lib.hid (F_wr.out.swp (g := g) rfl i j (.int .u64 y) (.int .u64 x))
      go_wp2_with fail
      go_region
      go_wp2_with fail
      go_roundw
      case rel => exact ⟨i + 1, j', _, by omega, by omega, by have := HJ.out; omega, by go_num, by go_num, HPS.out, HS.out, HFS.out.drew⟩
      case measure => simp [intOf]; have := HJ.out; omega
    · have i2 : ¬ (i : Int) < (j : Int) := by omega
      clear hij
      go_wp2_with fail
      go_end0
      exact ⟨rfl, U, hp.out, hv.out, hf.out⟩
end Go.Proofs.Yteglklcaaicjjaa
