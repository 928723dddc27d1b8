/- Contracts of the sift and of the heap sort, by walks. -/
import Derived.Test.YteglklcaaicjjaaW8
namespace Go.Proofs.Yteglklcaaicjjaa
open Go.RowKit Go.WideShapes

/-- Which child. -/
def Kid (hi f root k : Nat) (U : Array Int) : Prop :=
  (k = 2 * root + 2 ∧ 2 * root + 2 < hi ∧ Go.Sort.ltInt U[f + (2 * root + 1)]! U[f + (2 * root + 1) + 1]! = true) ∨
  (k = 2 * root + 1 ∧ (¬ 2 * root + 2 < hi ∨ Go.Sort.ltInt U[f + (2 * root + 1)]! U[f + (2 * root + 1) + 1]! = false))
theorem sift_end {hi f root : Nat} (U : Array Int) (h : hi ≤ 2 * root + 1) : Go.Sort.siftDown Go.Sort.ltInt hi f root U = U := by
  rw [Go.Sort.siftDown, dif_pos h]
theorem sift_stop {hi f root k : Nat} {U : Array Int} (h : ¬ hi ≤ 2 * root + 1) (hk : Kid hi f root k U) (hl : Go.Sort.ltInt U[f + root]! U[f + k]! = false) : Go.Sort.siftDown Go.Sort.ltInt hi f root U = U := by
  rw [Go.Sort.siftDown, dif_neg h]
  rcases hk with ⟨rfl, h1, h2⟩ | ⟨rfl, h1⟩
  · rw [if_pos (by rw [h2]; simpa using h1), hl]
    rfl
  · rw [if_neg (by rcases h1 with h1 | h1 <;> simp [h1]), hl]
    rfl
theorem sift_go {hi f root k : Nat} {U : Array Int} (h : ¬ hi ≤ 2 * root + 1) (hk : Kid hi f root k U) (hl : Go.Sort.ltInt U[f + root]! U[f + k]! = true) :
    Go.Sort.siftDown Go.Sort.ltInt hi f root U = Go.Sort.siftDown Go.Sort.ltInt hi f k (Go.Sort.swp U (f + root) (f + k)) := by
  rw [Go.Sort.siftDown, dif_neg h]
  rcases hk with ⟨rfl, h1, h2⟩ | ⟨rfl, h1⟩
  · rw [if_pos (by rw [h2]; simpa using h1), hl, dif_pos h1]
    rfl
  · rw [if_neg (by rcases h1 with h1 | h1 <;> simp [h1]), hl]
    rfl

set_option maxRecDepth 100000 in
set_option maxHeartbeats 8000000 in
theorem sift_any (B : Nat) (w : World) (g n cap : Nat) (V : Array Int) (lo hi f : Nat) (h : Vec B w g n cap V) (hfn : f + hi ≤ n) (hlo : lo ≤ n) (hn : n ≤ 1000000) :
    Calls Try.prog 38 #[.slice (some ⟨g, 0, none⟩) n cap, .int .i64 lo, .int .i64 hi, .int .i64 f] w (VPost B g n cap (Go.Sort.siftDown Go.Sort.ltInt hi f lo V) w) := by
  unfold VPost
  obtain ⟨T, hT⟩ : ∃ T, Go.Sort.siftDown Go.Sort.ltInt hi f lo V = T := ⟨_, rfl⟩
  rw [hT]
  have HT := Lib.hid hT
  have H := Lib.hid h
  clear h hT
  go_enter Try.func38, Try.ntmps38
  go_wp2_with fail
  go_loopw [8, 9] (fun s8 _ wr => ∃ (root : Nat) (U : Array Int), root ≤ n ∧ s8 = .int .i64 root ∧ Hid (Go.Sort.siftDown Go.Sort.ltInt hi f root U = T) ∧ Hid (Vec B wr g n cap U) ∧ Hid (Fr (fun j => j = g) w wr)) (fun s8 _ _ => hi - (intOf s8).toNat)
  case atStart => exact ⟨lo, V, hlo, rfl, HT.out, H.out, Fr.refl _ _⟩
  case round =>
    obtain ⟨root, U, hr, rfl, ht, hv, hf⟩ := hrel
    obtain ⟨c, hc⟩ : ∃ c, c = 2 * root + 1 := ⟨_, rfl⟩
    have i1 : IntKind.i64.wrap (2 * (root : Int)) = 2 * (root : Int) := IntWalk.i64_in _ (by omega)
    have i2 : IntKind.i64.wrap (2 * (root : Int) + 1) = (c : Int) := by rw [IntWalk.i64_in _ (by omega)]; omega
    by_cases hch : hi ≤ c
    · have HE : Hid (U = T) := by
        show _ = _
        rw [← ht.out, sift_end U (by omega)]
      have i3 : (hi : Int) ≤ (c : Int) := by omega
      have HC := Lib.hid hc
      clear hc
      go_wp2_with fail
      go_end0
      rw [← HE.out]
      exact ⟨rfl, hv.out, hf.out⟩
    · have i3 : ¬ (hi : Int) ≤ (c : Int) := by omega
      obtain ⟨d, hd⟩ : ∃ d, d = c + 1 := ⟨_, rfl⟩
      obtain ⟨r0, hr0⟩ : ∃ d, d = f + root := ⟨_, rfl⟩
      obtain ⟨p, hp⟩ : ∃ d, d = f + c := ⟨_, rfl⟩
      have j0 : IntKind.i64.wrap ((c : Int) + 1) = (d : Int) := by rw [IntWalk.i64_in _ (by omega)]; omega
      have j1 : IntKind.i64.wrap ((f : Int) + (root : Int)) = (r0 : Int) := by rw [IntWalk.i64_in _ (by omega)]; omega
      have j2 : IntKind.i64.wrap ((f : Int) + (c : Int)) = (p : Int) := by rw [IntWalk.i64_in _ (by omega)]; omega
      have k1 : (r0 : Int) < (n : Int) := by omega
      have k2 : (0 : Int) ≤ (r0 : Int) := by omega
      have k3 : (p : Int) < (n : Int) := by omega
      have k4 : (0 : Int) ≤ (p : Int) := by omega
      have d0 := hv.out.cell (i := r0) (by omega)
      have d1 := hv.out.cell (i := p) (by omega)
      obtain ⟨x, hx⟩ : ∃ x, U[r0]! = x := ⟨_, rfl⟩
      obtain ⟨y, hy⟩ : ∃ x, U[p]! = x := ⟨_, rfl⟩
      rw [hx] at d0
      rw [hy] at d1
      have HX := Lib.hid hx
      have HY := Lib.hid hy
      have HC := Lib.hid hc
      have HD := Lib.hid hd
      have HR := Lib.hid hr0
      have HP := Lib.hid hp
      have HCH := Lib.hid hch
      clear hx hy
      by_cases hdh : d < hi
      · have c1 : decide ((d : Int) < (hi : Int)) = true := decide_eq_true (by omega)
        have c1b : (d : Int) < (hi : Int) := by omega
        obtain ⟨q, hq⟩ : ∃ q, q = p + 1 := ⟨_, rfl⟩
        have j3 : IntKind.i64.wrap ((p : Int) + 1) = (q : Int) := by rw [IntWalk.i64_in _ (by omega)]; omega
        have j4 : IntKind.i64.wrap ((f : Int) + (d : Int)) = (q : Int) := by rw [IntWalk.i64_in _ (by omega)]; omega
        have k5 : (q : Int) < (n : Int) := by omega
        have k6 : (0 : Int) ≤ (q : Int) := by omega
        have d2 := hv.out.cell (i := q) (by omega)
        obtain ⟨z, hz⟩ : ∃ x, U[q]! = x := ⟨_, rfl⟩
        rw [hz] at d2
        have HZ := Lib.hid hz
        have HQ : Hid (q = f + d) := by show _ = _; omega
        have HQ2 := Lib.hid hq
        have hqn : q < n := by omega
        have hpn : p < n := by omega
        have hrn : r0 < n := by omega
        clear hz
        cases hlz : Go.Sort.ltInt y z with
        | true =>
          have HLZ := Lib.hid hlz
          have HKID : Hid (Kid hi f root d U) := Or.inl ⟨by omega, by omega, by rw [← hc, ← hp, ← hq, HY.out, HZ.out]; exact hlz⟩
          clear hlz hc hd hr0 hp hq hch hdh
          go_wp2_with fail
          go_quiet ((go_at_call 33; exact Calls.quiet_of_same (less_is _ y z true HLZ.out)))
          go_wp2_with fail
          have hv_wq : Vec B (wr.drewN nq) g n cap U := hv.out.fr ((Fr.refl none0 wr).drewN nq) (fun h => h)
          have hf_wq : Fr (fun j => j = g) w (wr.drewN nq) := hf.out.drewN nq
          have V_wq := Lib.hid hv_wq
          have F_wq := Lib.hid hf_wq
          clear hv_wq hf_wq
          have d0 : (wr.drewN nq).cell? ⟨g, r0, none⟩ = some (.int .u64 x) := d0
          have d1 : (wr.drewN nq).cell? ⟨g, p, none⟩ = some (.int .u64 y) := d1
          have d2 : (wr.drewN nq).cell? ⟨g, q, none⟩ = some (.int .u64 z) := d2
          generalize wr.drewN nq = wq at *
          cases hl : Go.Sort.ltInt x z with
          | false =>
            have HL := Lib.hid hl
            have HE : Hid (U = T) := by
              show _ = _
              rw [← ht.out, sift_stop (by have := HC.out; have := HCH.out; omega) HKID.out (by rw [← HR.out, ← HQ.out, HX.out, HZ.out]; exact HL.out)]
            clear hl
            go_wp2_with fail
            go_quiet ((go_at_call 33; exact Calls.quiet_of_same (less_is _ x z false HL.out)))
            go_wp2_with fail
            refine bodyPost_ret (results_none rfl _ _ _) rfl ?_
            rw [← HE.out]
            exact ⟨rfl, V_wq.out.fr ((Fr.refl none0 wq).drewN nq) (fun h => h), F_wq.out.drewN nq⟩
          | true =>
            have HL := Lib.hid hl
            have HT2 : Hid (Go.Sort.siftDown Go.Sort.ltInt hi f d (Go.Sort.swp U r0 q) = T) := by
              show _ = _
              rw [← ht.out, sift_go (by have := HC.out; have := HCH.out; omega) HKID.out (by rw [← HR.out, ← HQ.out, HX.out, HZ.out]; exact HL.out), ← HR.out, ← HQ.out]
            clear hl
            go_wp2_with fail
            go_quiet ((go_at_call 33; exact Calls.quiet_of_same (less_is _ x z true HL.out)))
            go_wp2_with fail
            have hv_ws : Vec B (wq.drewN nq) g n cap U := V_wq.out.fr ((Fr.refl none0 wq).drewN nq) (fun h => h)
            have hf_ws : Fr (fun j => j = g) w (wq.drewN nq) := F_wq.out.drewN nq
            have V_ws := Lib.hid hv_ws
            have F_ws := Lib.hid hf_ws
            clear hv_ws hf_ws
            have d0 : (wq.drewN nq).cell? ⟨g, r0, none⟩ = some (.int .u64 x) := d0
            have d1 : (wq.drewN nq).cell? ⟨g, p, none⟩ = some (.int .u64 y) := d1
            have d2 : (wq.drewN nq).cell? ⟨g, q, none⟩ = some (.int .u64 z) := d2
            generalize wq.drewN nq = ws at *
            obtain ⟨f1, f2, ⟨z3, d3⟩, f3, HS⟩ := V_ws.out.swap (i := r0) (j := q) (by omega) HX.out HZ.out
            have HFS := Lib.hid (F_ws.out.swp (g := g) rfl r0 q (.int .u64 z) (.int .u64 x))
            go_region
            go_wp2_with fail
            go_roundw
            case rel => exact ⟨d, Go.Sort.swp U r0 q, by have := HC.out; have := HD.out; omega, rfl, HT2.out, HS.out, HFS.out.drew⟩
            case measure => simp [intOf]; have := HC.out; have := HD.out; have := HCH.out; omega
        | false =>
          have HLZ := Lib.hid hlz
          have HKID : Hid (Kid hi f root c U) := Or.inr ⟨hc, Or.inr (by rw [← hc, ← hp, ← hq, HY.out, HZ.out]; exact hlz)⟩
          clear hlz hc hd hr0 hp hq hch hdh
          go_wp2_with fail
          go_quiet ((go_at_call 33; exact Calls.quiet_of_same (less_is _ y z false HLZ.out)))
          go_wp2_with fail
          have hv_wq : Vec B (wr.drewN nq) g n cap U := hv.out.fr ((Fr.refl none0 wr).drewN nq) (fun h => h)
          have hf_wq : Fr (fun j => j = g) w (wr.drewN nq) := hf.out.drewN nq
          have V_wq := Lib.hid hv_wq
          have F_wq := Lib.hid hf_wq
          clear hv_wq hf_wq
          have d0 : (wr.drewN nq).cell? ⟨g, r0, none⟩ = some (.int .u64 x) := d0
          have d1 : (wr.drewN nq).cell? ⟨g, p, none⟩ = some (.int .u64 y) := d1
          have d2 : (wr.drewN nq).cell? ⟨g, q, none⟩ = some (.int .u64 z) := d2
          generalize wr.drewN nq = wq at *
          cases hl : Go.Sort.ltInt x y with
          | false =>
            have HL := Lib.hid hl
            have HE : Hid (U = T) := by
              show _ = _
              rw [← ht.out, sift_stop (by have := HC.out; have := HCH.out; omega) HKID.out (by rw [← HR.out, ← HP.out, HX.out, HY.out]; exact HL.out)]
            clear hl
            go_wp2_with fail
            go_quiet ((go_at_call 33; exact Calls.quiet_of_same (less_is _ x y false HL.out)))
            go_wp2_with fail
            refine bodyPost_ret (results_none rfl _ _ _) rfl ?_
            rw [← HE.out]
            exact ⟨rfl, V_wq.out.fr ((Fr.refl none0 wq).drewN nq) (fun h => h), F_wq.out.drewN nq⟩
          | true =>
            have HL := Lib.hid hl
            have HT2 : Hid (Go.Sort.siftDown Go.Sort.ltInt hi f c (Go.Sort.swp U r0 p) = T) := by
              show _ = _
              rw [← ht.out, sift_go (by have := HC.out; have := HCH.out; omega) HKID.out (by rw [← HR.out, ← HP.out, HX.out, HY.out]; exact HL.out), ← HR.out, ← HP.out]
            clear hl
            go_wp2_with fail
            go_quiet ((go_at_call 33; exact Calls.quiet_of_same (less_is _ x y true HL.out)))
            go_wp2_with fail
            have hv_ws : Vec B (wq.drewN nq) g n cap U := V_wq.out.fr ((Fr.refl none0 wq).drewN nq) (fun h => h)
            have hf_ws : Fr (fun j => j = g) w (wq.drewN nq) := F_wq.out.drewN nq
            have V_ws := Lib.hid hv_ws
            have F_ws := Lib.hid hf_ws
            clear hv_ws hf_ws
            have d0 : (wq.drewN nq).cell? ⟨g, r0, none⟩ = some (.int .u64 x) := d0
            have d1 : (wq.drewN nq).cell? ⟨g, p, none⟩ = some (.int .u64 y) := d1
            have d2 : (wq.drewN nq).cell? ⟨g, q, none⟩ = some (.int .u64 z) := d2
            generalize wq.drewN nq = ws at *
            obtain ⟨f1, f2, ⟨z3, d3⟩, f3, HS⟩ := V_ws.out.swap (i := r0) (j := p) (by omega) HX.out HY.out
            have HFS := Lib.hid (F_ws.out.swp (g := g) rfl r0 p (.int .u64 y) (.int .u64 x))
            go_region
            go_wp2_with fail
            go_roundw
            case rel => exact ⟨c, Go.Sort.swp U r0 p, by have := HC.out; have := HD.out; omega, rfl, HT2.out, HS.out, HFS.out.drew⟩
            case measure => simp [intOf]; have := HC.out; have := HD.out; have := HCH.out; omega
      · have c1 : decide ((d : Int) < (hi : Int)) = false := decide_eq_false (by omega)
        have c1n : decide (d < hi) = false := decide_eq_false hdh
        have HKID : Hid (Kid hi f root c U) := Or.inr ⟨hc, Or.inl (by omega)⟩
        have hpn : p < n := by omega
        have hrn : r0 < n := by omega
        clear hc hd hr0 hp hch hdh
        go_wp2_with fail
        go_quiet (fail)
        go_wp2_with fail
        have hv_wq : Vec B (wr.drewN nq) g n cap U := hv.out.fr ((Fr.refl none0 wr).drewN nq) (fun h => h)
        have hf_wq : Fr (fun j => j = g) w (wr.drewN nq) := hf.out.drewN nq
        have V_wq := Lib.hid hv_wq
        have F_wq := Lib.hid hf_wq
        clear hv_wq hf_wq
        have d0 : (wr.drewN nq).cell? ⟨g, r0, none⟩ = some (.int .u64 x) := d0
        have d1 : (wr.drewN nq).cell? ⟨g, p, none⟩ = some (.int .u64 y) := d1
        generalize wr.drewN nq = wq at *
        cases hl : Go.Sort.ltInt x y with
        | false =>
          have HL := Lib.hid hl
          have HE : Hid (U = T) := by
            show _ = _
            rw [← ht.out, sift_stop (by have := HC.out; have := HCH.out; omega) HKID.out (by rw [← HR.out, ← HP.out, HX.out, HY.out]; exact HL.out)]
          clear hl
          go_wp2_with fail
          go_quiet ((go_at_call 33; exact Calls.quiet_of_same (less_is _ x y false HL.out)))
          go_wp2_with fail
          refine bodyPost_ret (results_none rfl _ _ _) rfl ?_
          rw [← HE.out]
          exact ⟨rfl, V_wq.out.fr ((Fr.refl none0 wq).drewN nq) (fun h => h), F_wq.out.drewN nq⟩
        | true =>
          have HL := Lib.hid hl
          have HT2 : Hid (Go.Sort.siftDown Go.Sort.ltInt hi f c (Go.Sort.swp U r0 p) = T) := by
            show _ = _
            rw [← ht.out, sift_go (by have := HC.out; have := HCH.out; omega) HKID.out (by rw [← HR.out, ← HP.out, HX.out, HY.out]; exact HL.out), ← HR.out, ← HP.out]
          clear hl
          go_wp2_with fail
          go_quiet ((go_at_call 33; exact Calls.quiet_of_same (less_is _ x y true HL.out)))
          go_wp2_with fail
          have hv_ws : Vec B (wq.drewN nq) g n cap U := V_wq.out.fr ((Fr.refl none0 wq).drewN nq) (fun h => h)
          have hf_ws : Fr (fun j => j = g) w (wq.drewN nq) := F_wq.out.drewN nq
          have V_ws := Lib.hid hv_ws
          have F_ws := Lib.hid hf_ws
          clear hv_ws hf_ws
          have d0 : (wq.drewN nq).cell? ⟨g, r0, none⟩ = some (.int .u64 x) := d0
          have d1 : (wq.drewN nq).cell? ⟨g, p, none⟩ = some (.int .u64 y) := d1
          generalize wq.drewN nq = ws at *
          obtain ⟨f1, f2, ⟨z3, d3⟩, f3, HS⟩ := V_ws.out.swap (i := r0) (j := p) (by omega) HX.out HY.out
          have HFS := Lib.hid (F_ws.out.swp (g := g) rfl r0 p (.int .u64 y) (.int .u64 x))
          go_region
          go_wp2_with fail
          go_roundw
          case rel => exact ⟨c, Go.Sort.swp U r0 p, by have := HC.out; have := HD.out; omega, rfl, HT2.out, HS.out, HFS.out.drew⟩
          case measure => simp [intOf]; have := HC.out; have := HD.out; have := HCH.out; omega
end Go.Proofs.Yteglklcaaicjjaa
