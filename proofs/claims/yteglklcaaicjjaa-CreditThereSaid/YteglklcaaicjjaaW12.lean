/- Contract of the partial insertion sort, by a walk. -/
import Derived.Test.YteglklcaaicjjaaW11
namespace Go.Proofs.Yteglklcaaicjjaa
open Go.RowKit Go.WideShapes

theorem ss_go {b i : Nat} {U : Array Int} (h : i < b) (hl : Go.Sort.ltInt U[i]! U[i - 1]! = false) : Go.Sort.scanSorted Go.Sort.ltInt U b i = Go.Sort.scanSorted Go.Sort.ltInt U b (i + 1) := by
  rw [Go.Sort.scanSorted, if_pos (by rw [hl]; simpa using h)]
theorem ss_stop {b i : Nat} {U : Array Int} (h : ¬ i < b ∨ Go.Sort.ltInt U[i]! U[i - 1]! = true) : Go.Sort.scanSorted Go.Sort.ltInt U b i = i := by
  rw [Go.Sort.scanSorted, if_neg (by rcases h with h | h <;> simp [h])]
theorem sd_go {j : Nat} {U : Array Int} (hl : Go.Sort.ltInt U[j + 1]! U[j]! = true) : Go.Sort.shiftDown Go.Sort.ltInt (j + 1) U = Go.Sort.shiftDown Go.Sort.ltInt j (Go.Sort.swp U (j + 1) j) := by
  rw [Go.Sort.shiftDown, hl]; rfl
theorem sd_stop {j : Nat} {U : Array Int} (hl : Go.Sort.ltInt U[j + 1]! U[j]! = false) : Go.Sort.shiftDown Go.Sort.ltInt (j + 1) U = U := by
  rw [Go.Sort.shiftDown, hl]; rfl
theorem su_go {b j : Nat} {U : Array Int} (h : j < b) (hl : Go.Sort.ltInt U[j]! U[j - 1]! = true) : Go.Sort.shiftUp Go.Sort.ltInt b j U = Go.Sort.shiftUp Go.Sort.ltInt b (j + 1) (Go.Sort.swp U j (j - 1)) := by
  rw [Go.Sort.shiftUp, if_pos h, hl]; rfl
theorem su_stop {b j : Nat} {U : Array Int} (h : ¬ j < b ∨ Go.Sort.ltInt U[j]! U[j - 1]! = false) : Go.Sort.shiftUp Go.Sort.ltInt b j U = U := by
  rw [Go.Sort.shiftUp]
  rcases h with h | h
  · rw [if_neg h]
  · rw [h]; split <;> rfl
/-- A step: what it goes on with, once the place i is found. -/
theorem pi_true {a b s i : Nat} {U : Array Int} (h : Go.Sort.scanSorted Go.Sort.ltInt U b i = b) : Go.Sort.partialIns Go.Sort.ltInt a b (s + 1) i U = (U, true) := by
  rw [Go.Sort.partialIns_succ, if_pos h]
theorem pi_false {a b s i k : Nat} {U : Array Int} (h : Go.Sort.scanSorted Go.Sort.ltInt U b i = k) (hk : k ≠ b) (hs : b - a < 50) : Go.Sort.partialIns Go.Sort.ltInt a b (s + 1) i U = (U, false) := by
  rw [Go.Sort.partialIns_succ, h, if_neg hk, if_pos hs]
theorem pi_go {a b s i k : Nat} {U : Array Int} (h : Go.Sort.scanSorted Go.Sort.ltInt U b i = k) (hk : k ≠ b) (hs : ¬ b - a < 50) :
    Go.Sort.partialIns Go.Sort.ltInt a b (s + 1) i U = Go.Sort.partialIns Go.Sort.ltInt a b s k (Go.Sort.fixUp Go.Sort.ltInt b k (Go.Sort.fixDown Go.Sort.ltInt a k (Go.Sort.swp U k (k - 1)))) := by
  rw [Go.Sort.partialIns_succ, h, if_neg hk, if_neg hs]

/-- What the partial insertion sort leaves. -/
def PinPost (B g n cap : Nat) (R : Array Int × Bool) (w : World) (e : Ending) (w' : World) : Prop := e = .returned (.bool R.2) ∧ Vec B w' g n cap R.1 ∧ Fr (fun j => j = g) w w'

set_option maxRecDepth 100000 in
set_option maxHeartbeats 16000000 in
theorem pin_any (B : Nat) (w : World) (g n cap : Nat) (V : Array Int) (a b : Nat) (h : Vec B w g n cap V) (hab : a < b) (hbn : b ≤ n) (hn : n ≤ 1000000) :
    Calls Try.prog 32 #[.slice (some ⟨g, 0, none⟩) n cap, .int .i64 a, .int .i64 b] w (PinPost B g n cap (Go.Sort.partialInsertionSort Go.Sort.ltInt V a b) w) := by
  unfold PinPost
  obtain ⟨R, hR⟩ : ∃ R, Go.Sort.partialInsertionSort Go.Sort.ltInt V a b = R := ⟨_, rfl⟩
  rw [hR]
  obtain ⟨a1, ha1⟩ : ∃ a1, a + 1 = a1 := ⟨_, rfl⟩
  have HR : Hid (Go.Sort.partialIns Go.Sort.ltInt a b 5 a1 V = R) := by
    show _ = _
    rw [← hR, ← ha1]
    rfl
  have H := Lib.hid h
  have i1 : IntKind.i64.wrap ((a : Int) + 1) = (a1 : Int) := by rw [IntWalk.i64_in _ (by omega)]; omega
  have haa : a < a1 := by omega
  have ha1b : a1 ≤ b := by omega
  have i2 : IntKind.i64.wrap ((b : Int) - (a : Int)) = (b : Int) - (a : Int) := IntWalk.i64_in _ (by omega)
  clear h hR ha1
  go_enter Try.func32, Try.ntmps32
  go_wp2_with fail
  go_loopw [6, 7, 8, 9, 10] (fun _ s7 s8 _ _ wr => ∃ (s i0 : Nat) (q : Int) (U : Array Int), q = 5 - (s : Int) ∧ 0 ≤ q ∧ a < i0 ∧ i0 ≤ b ∧ s7 = .int .i64 i0 ∧ s8 = .int .i64 q ∧ Hid (Go.Sort.partialIns Go.Sort.ltInt a b s i0 U = R) ∧ Hid (Vec B wr g n cap U) ∧ Hid (Fr (fun j => j = g) w wr)) (fun _ _ s8 _ _ _ => (5 - intOf s8).toNat)
  case atStart => exact ⟨5, a1, 0, V, by omega, Int.le_refl _, haa, ha1b, by go_num, by go_num, HR.out, H.out, Fr.refl _ _⟩
  case round =>
    obtain ⟨s, i0, q, U, hq, hq0, hai0, hi0b, rfl, rfl, ht, hv0, hf0⟩ := hrel
    by_cases hs : s = 0
    · have hq5 : ¬ q < 5 := by omega
      have HRR : Hid ((U, false) = R) := by
        show _ = _
        rw [← ht.out, hs]
        rfl
      clear hq hs
      go_wp2_with fail
      go_ret
      rw [← HRR.out]
      exact ⟨rfl, hv0.out, hf0.out⟩
    · obtain ⟨s', hs'⟩ : ∃ s', s = s' + 1 := ⟨s - 1, by omega⟩
      have hq5 : q < 5 := by omega
      have hq1 : IntKind.i64.wrap (q + 1) = q + 1 := IntWalk.i64_in _ (by omega)
      have hqs : q + 1 = 5 - (s' : Int) := by omega
      obtain ⟨I, hI⟩ : ∃ I, Go.Sort.scanSorted Go.Sort.ltInt U b i0 = I := ⟨_, rfl⟩
      have HI := Lib.hid hI
      have HTS : Hid (Go.Sort.partialIns Go.Sort.ltInt a b (s' + 1) i0 U = R) := by show _ = _; rw [← hs']; exact ht.out
      clear hI hs hq hs' ht
      go_wp2_with fail
      go_loopw [7] (fun s7 wr => ∃ (i : Nat), i0 ≤ i ∧ i ≤ b ∧ s7 = .int .i64 i ∧ Hid (Go.Sort.scanSorted Go.Sort.ltInt U b i = I) ∧ Hid (Vec B wr g n cap U) ∧ Hid (Fr (fun j => j = g) w wr)) (fun s7 _ => b - (intOf s7).toNat)
      case atStart => exact ⟨i0, Nat.le_refl _, hi0b, rfl, HI.out, hv0.out, hf0.out⟩
      case round =>
        obtain ⟨i, hii, hib, rfl, hti, hv, hf⟩ := hrel
        obtain ⟨i', hi'⟩ : ∃ i', i = i' + 1 := ⟨i - 1, by omega⟩
        have e5 : IntKind.i64.wrap ((i : Int) - 1) = (i' : Int) := by rw [IntWalk.i64_in _ (by omega)]; omega
        have e6 : i - 1 = i' := by omega
        have HIP := Lib.hid hi'
        have HIM := Lib.hid e6
        by_cases hlt : i < b
        · have di := hv.out.cell (i := i) (by omega)
          have dm := hv.out.cell (i := i') (by omega)
          obtain ⟨x, hx⟩ : ∃ x, U[i]! = x := ⟨_, rfl⟩
          obtain ⟨y, hy⟩ : ∃ x, U[i']! = x := ⟨_, rfl⟩
          rw [hx] at di
          rw [hy] at dm
          have HX := Lib.hid hx
          have HY := Lib.hid hy
          have c1 : decide ((i : Int) < (b : Int)) = true := decide_eq_true (by omega)
          have c2 : (i : Int) < (b : Int) := by omega
          have c3 : (i : Int) < (n : Int) := by omega
          have c4 : (0 : Int) ≤ (i : Int) := by omega
          have c5 : (i' : Int) < (n : Int) := by omega
          have c6 : (0 : Int) ≤ (i' : Int) := by omega
          have hin : i < n := by omega
          have hin' : i' < n := by omega
          clear hx hy hi' e6
          cases hl : Go.Sort.ltInt x y with
          | false =>
            have HL := Lib.hid hl
            have HT : Hid (Go.Sort.scanSorted Go.Sort.ltInt U b (i + 1) = I) := (ss_go hlt (by rw [HIM.out, HX.out, HY.out]; exact hl)).symm.trans hti.out
            clear hl
            go_wp2_with fail
            go_quiet ((go_at_call 33; exact Calls.quiet_of_same (less_is _ x y false HL.out)))
            go_wp2_with fail
            go_roundw
            case rel => exact ⟨i + 1, by omega, by omega, by go_num, HT.out, hv.out.fr ((Fr.refl none0 wr).drewN nq) (fun h => h), hf.out.drewN nq⟩
            case measure => simp [intOf]; omega
          | true =>
            have HL := Lib.hid hl
            have HIK : Hid (Go.Sort.scanSorted Go.Sort.ltInt U b i0 = i) := by
              show _ = _
              rw [HI.out, ← hti.out]
              exact ss_stop (Or.inr (by rw [HIM.out, HX.out, HY.out]; exact hl))
            have hne : i ≠ b := by omega
            have c7 : ((i : Int) == (b : Int)) = false := by simp; omega
            clear hl hti
            go_wp2_with fail
            go_quiet ((go_at_call 33; exact Calls.quiet_of_same (less_is _ x y true HL.out)))
            have hv_wq : Vec B (wr.drewN nq) g n cap U := hv.out.fr ((Fr.refl none0 wr).drewN nq) (fun h => h)
            have hf_wq : Fr (fun j => j = g) w (wr.drewN nq) := hf.out.drewN nq
            have V_wq := Lib.hid hv_wq
            have F_wq := Lib.hid hf_wq
            clear hv_wq hf_wq
            have di : (wr.drewN nq).cell? ⟨g, i, none⟩ = some (.int .u64 x) := di
            have dm : (wr.drewN nq).cell? ⟨g, i', none⟩ = some (.int .u64 y) := dm
            generalize wr.drewN nq = wq at *
            by_cases h50 : b - a < 50
            · have HRR : Hid ((U, false) = R) := (pi_false HIK.out hne h50).symm.trans HTS.out
              have g1 : (b : Int) - (a : Int) < 50 := by omega
              clear h50
              go_wp2_with fail
              go_ret
              rw [← HRR.out]
              exact ⟨rfl, V_wq.out, F_wq.out⟩
            · have HTG : Hid (Go.Sort.partialIns Go.Sort.ltInt a b s' i (Go.Sort.fixUp Go.Sort.ltInt b i (Go.Sort.fixDown Go.Sort.ltInt a i (Go.Sort.swp U i i'))) = R) := by
                have h1 := (pi_go HIK.out hne h50).symm.trans HTS.out
                rw [HIM.out] at h1
                exact h1
              have g1 : ¬ (b : Int) - (a : Int) < 50 := by omega
              have i3 : IntKind.i64.wrap ((i : Int) - (a : Int)) = (i : Int) - (a : Int) := IntWalk.i64_in _ (by omega)
              have i4 : IntKind.i64.wrap ((b : Int) - (i : Int)) = (b : Int) - (i : Int) := IntWalk.i64_in _ (by omega)
              clear h50 c7 hne
              obtain ⟨f1, f2, ⟨z3, d3⟩, f3, HS⟩ := V_wq.out.swap (i := i) (j := i') (by omega) HX.out HY.out
              have HFS := Lib.hid (F_wq.out.swp (g := g) rfl i i' (.int .u64 y) (.int .u64 x))
              go_wp2_with fail
              go_region
              have V_s := Lib.hid (HS.out.fr ((Fr.refl none0 _).drew) (fun h => h))
              have F_s := Lib.hid HFS.out.drew
              generalize ((wq.setCell ⟨g, i, none⟩ (.int .u64 y)).setCell ⟨g, i', none⟩ (.int .u64 x)).drew = ws at *
              clear HS HFS f1 f2 d3 f3 di dm V_wq F_wq
              obtain ⟨U1, hU1⟩ : ∃ U1, Go.Sort.swp U i i' = U1 := ⟨_, rfl⟩
              rw [hU1] at V_s HTG
              clear hU1 HX HY
              by_cases hia : i - a ≥ 2
              · have g2 : (2 : Int) ≤ (i : Int) - (a : Int) := by omega
                obtain ⟨T3, hT3⟩ : ∃ T, Go.Sort.shiftDown Go.Sort.ltInt i' U1 = T := ⟨_, rfl⟩
                have HT3 := Lib.hid hT3
                have HTU0 : Hid (Go.Sort.partialIns Go.Sort.ltInt a b s' i (Go.Sort.fixUp Go.Sort.ltInt b i T3) = R) := by
                  have h1 := HTG.out
                  unfold Go.Sort.fixDown at h1
                  rw [if_pos hia, HIM.out, hT3] at h1
                  exact h1
                clear hia hT3
                go_wp2_with fail
                go_loopw [9] (fun s9 wr => ∃ (j : Nat) (U3 : Array Int), j ≤ i' ∧ s9 = .int .i64 j ∧ Hid (Go.Sort.shiftDown Go.Sort.ltInt j U3 = T3) ∧ Hid (Vec B wr g n cap U3) ∧ Hid (Fr (fun j => j = g) w wr)) (fun s9 _ => (intOf s9).toNat)
                case atStart => exact ⟨i', U1, Nat.le_refl _, by go_num, HT3.out, V_s.out, F_s.out⟩
                case round =>
                  obtain ⟨j, U3, hji, rfl, ht3, hv3, hf3⟩ := hrel
                  by_cases hj0 : j = 0
                  · have HTU : Hid (Go.Sort.partialIns Go.Sort.ltInt a b s' i (Go.Sort.fixUp Go.Sort.ltInt b i U3) = R) := by
                      show _ = _
                      rw [← HTU0.out, ← ht3.out, hj0]
                      rfl
                    have k1 : ¬ (1 : Int) ≤ (j : Int) := by omega
                    clear hj0
                    obtain ⟨U2, hU2⟩ : ∃ U2, U3 = U2 := ⟨_, rfl⟩
                    subst hU2
                    by_cases hbi : b - i ≥ 2
                    · have g4 : (2 : Int) ≤ (b : Int) - (i : Int) := by omega
                      obtain ⟨i2, hi2⟩ : ∃ i2, i + 1 = i2 := ⟨_, rfl⟩
                      have g5 : IntKind.i64.wrap ((i : Int) + 1) = (i2 : Int) := by rw [IntWalk.i64_in _ (by omega)]; omega
                      obtain ⟨T4, hT4⟩ : ∃ T, Go.Sort.shiftUp Go.Sort.ltInt b i2 U3 = T := ⟨_, rfl⟩
                      have HT4 := Lib.hid hT4
                      have HTE0 : Hid (Go.Sort.partialIns Go.Sort.ltInt a b s' i T4 = R) := by
                        have h1 := HTU.out
                        unfold Go.Sort.fixUp at h1
                        rw [if_pos hbi, hi2, hT4] at h1
                        exact h1
                      have hi2p : 1 ≤ i2 := by omega
                      have hi2b : i2 ≤ b := by omega
                      clear hbi hi2 hT4
                      go_wp2_with fail
                      go_loopw [10] (fun s10 wr => ∃ (j : Nat) (U4 : Array Int), 1 ≤ j ∧ j ≤ b ∧ s10 = .int .i64 j ∧ Hid (Go.Sort.shiftUp Go.Sort.ltInt b j U4 = T4) ∧ Hid (Vec B wr g n cap U4) ∧ Hid (Fr (fun j => j = g) w wr)) (fun s10 _ => b - (intOf s10).toNat)
                      case atStart => exact ⟨i2, U3, hi2p, hi2b, by go_num, HT4.out, hv3.out, hf3.out⟩
                      case round =>
                        obtain ⟨j, U4, hj1, hjb, rfl, ht4, hv4, hf4⟩ := hrel
                        by_cases hjlt : j < b
                        · obtain ⟨j', hj'⟩ : ∃ j', j = j' + 1 := ⟨j - 1, by omega⟩
                          have e7 : IntKind.i64.wrap ((j : Int) - 1) = (j' : Int) := by rw [IntWalk.i64_in _ (by omega)]; omega
                          have e8 : j - 1 = j' := by omega
                          have HJM := Lib.hid e8
                          have dj := hv4.out.cell (i := j) (by omega)
                          have dk := hv4.out.cell (i := j') (by omega)
                          obtain ⟨p, hp⟩ : ∃ x, U4[j]! = x := ⟨_, rfl⟩
                          obtain ⟨r, hr⟩ : ∃ x, U4[j']! = x := ⟨_, rfl⟩
                          rw [hp] at dj
                          rw [hr] at dk
                          have HP := Lib.hid hp
                          have HQ := Lib.hid hr
                          have k2 : (j : Int) < (b : Int) := by omega
                          have k3 : (j : Int) < (n : Int) := by omega
                          have k4 : (0 : Int) ≤ (j : Int) := by omega
                          have k5 : (j' : Int) < (n : Int) := by omega
                          have k6 : (0 : Int) ≤ (j' : Int) := by omega
                          have hjn' : j' < n := by omega
                          clear hp hr hj' e8
                          cases hl4 : Go.Sort.ltInt p r with
                          | true =>
                            have HL4 := Lib.hid hl4
                            have HT5 : Hid (Go.Sort.shiftUp Go.Sort.ltInt b (j + 1) (Go.Sort.swp U4 j j') = T4) := by
                              have h1 := (su_go hjlt (by rw [HJM.out, HP.out, HQ.out]; exact hl4)).symm.trans ht4.out
                              rw [HJM.out] at h1
                              exact h1
                            clear hl4
                            go_wp2_with fail
                            go_quiet ((go_at_call 33; exact Calls.quiet_of_same (less_is _ p r true HL4.out)))
                            go_wp2_with fail
                            have hv_wu : Vec B (wr.drewN nq) g n cap U4 := hv4.out.fr ((Fr.refl none0 wr).drewN nq) (fun h => h)
                            have hf_wu : Fr (fun j => j = g) w (wr.drewN nq) := hf4.out.drewN nq
                            have V_wu := Lib.hid hv_wu
                            have F_wu := Lib.hid hf_wu
                            clear hv_wu hf_wu
                            have dj : (wr.drewN nq).cell? ⟨g, j, none⟩ = some (.int .u64 p) := dj
                            have dk : (wr.drewN nq).cell? ⟨g, j', none⟩ = some (.int .u64 r) := dk
                            generalize wr.drewN nq = wu at *
                            obtain ⟨f1, f2, ⟨z3, d3⟩, f3, HS⟩ := V_wu.out.swap (i := j) (j := j') (by omega) HP.out HQ.out
                            have HFS := Lib.hid (F_wu.out.swp (g := g) rfl j j' (.int .u64 r) (.int .u64 p))
                            go_wp2_with fail
                            go_region
                            go_wp2_with fail
                            go_roundw
                            case rel => exact ⟨j + 1, _, by omega, by omega, by go_num, HT5.out, HS.out, HFS.out.drew⟩
                            case measure => simp [intOf]; omega
                          | false =>
                            have HL4 := Lib.hid hl4
                            have HTE : Hid (Go.Sort.partialIns Go.Sort.ltInt a b s' i U4 = R) := by
                              show _ = _
                              rw [← HTE0.out, ← ht4.out, su_stop (Or.inr (by rw [HJM.out, HP.out, HQ.out]; exact hl4))]
                            clear hl4
                            go_wp2_with fail
                            go_quiet ((go_at_call 33; exact Calls.quiet_of_same (less_is _ p r false HL4.out)))
                            go_wp2_with fail
                            go_roundw
                            case rel => exact ⟨s', i, q + 1, U4, hqs, by omega, by omega, by omega, rfl, by go_num, HTE.out, hv4.out.fr ((Fr.refl none0 wr).drewN nq) (fun h => h), hf4.out.drewN nq⟩
                            case measure => simp [intOf]; omega
                        · have k2 : ¬ (j : Int) < (b : Int) := by omega
                          have HTE : Hid (Go.Sort.partialIns Go.Sort.ltInt a b s' i U4 = R) := by
                            show _ = _
                            rw [← HTE0.out, ← ht4.out, su_stop (Or.inl hjlt)]
                          clear hjlt
                          go_wp2_with fail
                          go_roundw
                          case rel => exact ⟨s', i, q + 1, U4, hqs, by omega, by omega, by omega, rfl, by go_num, HTE.out, hv4.out, hf4.out⟩
                          case measure => simp [intOf]; omega
                    · have g4 : ¬ (2 : Int) ≤ (b : Int) - (i : Int) := by omega
                      have HTE : Hid (Go.Sort.partialIns Go.Sort.ltInt a b s' i U3 = R) := by
                        have h1 := HTU.out
                        unfold Go.Sort.fixUp at h1
                        rw [if_neg hbi] at h1
                        exact h1
                      clear hbi
                      go_wp2_with fail
                      go_roundw
                      case rel => exact ⟨s', i, q + 1, U3, hqs, by omega, by omega, by omega, rfl, by go_num, HTE.out, hv3.out, hf3.out⟩
                      case measure => simp [intOf]; omega
                  · obtain ⟨j', hj'⟩ : ∃ j', j = j' + 1 := ⟨j - 1, by omega⟩
                    have k1 : (1 : Int) ≤ (j : Int) := by omega
                    have e7 : IntKind.i64.wrap ((j : Int) - 1) = (j' : Int) := by rw [IntWalk.i64_in _ (by omega)]; omega
                    have dj := hv3.out.cell (i := j) (by omega)
                    have dk := hv3.out.cell (i := j') (by omega)
                    obtain ⟨p, hp⟩ : ∃ x, U3[j]! = x := ⟨_, rfl⟩
                    obtain ⟨r, hr⟩ : ∃ x, U3[j']! = x := ⟨_, rfl⟩
                    rw [hp] at dj
                    rw [hr] at dk
                    have HP := Lib.hid hp
                    have HQ := Lib.hid hr
                    have k3 : (j : Int) < (n : Int) := by omega
                    have k4 : (0 : Int) ≤ (j : Int) := by omega
                    have k5 : (j' : Int) < (n : Int) := by omega
                    have k6 : (0 : Int) ≤ (j' : Int) := by omega
                    have hjn' : j' < n := by omega
                    have hjj' : j' ≤ i' := by omega
                    have HJ := Lib.hid hj'
                    clear hp hr hj' hj0
                    cases hl3 : Go.Sort.ltInt p r with
                    | true =>
                      have HL3 := Lib.hid hl3
                      have HT5 : Hid (Go.Sort.shiftDown Go.Sort.ltInt j' (Go.Sort.swp U3 j j') = T3) := by
                        show _ = _
                        rw [← ht3.out, HJ.out]
                        exact (sd_go (by rw [← HJ.out, HP.out, HQ.out]; exact hl3)).symm
                      clear hl3
                      go_wp2_with fail
                      go_quiet ((go_at_call 33; exact Calls.quiet_of_same (less_is _ p r true HL3.out)))
                      go_wp2_with fail
                      have hv_wu : Vec B (wr.drewN nq) g n cap U3 := hv3.out.fr ((Fr.refl none0 wr).drewN nq) (fun h => h)
                      have hf_wu : Fr (fun j => j = g) w (wr.drewN nq) := hf3.out.drewN nq
                      have V_wu := Lib.hid hv_wu
                      have F_wu := Lib.hid hf_wu
                      clear hv_wu hf_wu
                      have dj : (wr.drewN nq).cell? ⟨g, j, none⟩ = some (.int .u64 p) := dj
                      have dk : (wr.drewN nq).cell? ⟨g, j', none⟩ = some (.int .u64 r) := dk
                      generalize wr.drewN nq = wu at *
                      obtain ⟨f1, f2, ⟨z3, d3⟩, f3, HS⟩ := V_wu.out.swap (i := j) (j := j') (by omega) HP.out HQ.out
                      have HFS := Lib.hid (F_wu.out.swp (g := g) rfl j j' (.int .u64 r) (.int .u64 p))
                      go_wp2_with fail
                      go_region
                      go_wp2_with fail
                      go_roundw
                      case rel => exact ⟨j', _, hjj', by go_num, HT5.out, HS.out, HFS.out.drew⟩
                      case measure => simp [intOf]; have := HJ.out; omega
                    | false =>
                      have HL3 := Lib.hid hl3
                      have HTU : Hid (Go.Sort.partialIns Go.Sort.ltInt a b s' i (Go.Sort.fixUp Go.Sort.ltInt b i U3) = R) := by
                        show _ = _
                        rw [← HTU0.out, ← ht3.out]
                        have h1 : Go.Sort.shiftDown Go.Sort.ltInt j U3 = U3 := by
                          rw [HJ.out]
                          exact sd_stop (by rw [← HJ.out, HP.out, HQ.out]; exact hl3)
                        rw [h1]
                      clear hl3
                      go_wp2_with fail
                      go_quiet ((go_at_call 33; exact Calls.quiet_of_same (less_is _ p r false HL3.out)))
                      have hv_wu : Vec B (wr.drewN nq) g n cap U3 := hv3.out.fr ((Fr.refl none0 wr).drewN nq) (fun h => h)
                      have hf_wu : Fr (fun j => j = g) w (wr.drewN nq) := hf3.out.drewN nq
                      have V_wu := Lib.hid hv_wu
                      have F_wu := Lib.hid hf_wu
                      clear hv_wu hf_wu
                      generalize wr.drewN nq = wu at *
                      clear dj dk HP HQ k1 e7 k3 k4 k5 k6
                      by_cases hbi : b - i ≥ 2
                      · have g4 : (2 : Int) ≤ (b : Int) - (i : Int) := by omega
                        obtain ⟨i2, hi2⟩ : ∃ i2, i + 1 = i2 := ⟨_, rfl⟩
                        have g5 : IntKind.i64.wrap ((i : Int) + 1) = (i2 : Int) := by rw [IntWalk.i64_in _ (by omega)]; omega
                        obtain ⟨T4, hT4⟩ : ∃ T, Go.Sort.shiftUp Go.Sort.ltInt b i2 U3 = T := ⟨_, rfl⟩
                        have HT4 := Lib.hid hT4
                        have HTE0 : Hid (Go.Sort.partialIns Go.Sort.ltInt a b s' i T4 = R) := by
                          have h1 := HTU.out
                          unfold Go.Sort.fixUp at h1
                          rw [if_pos hbi, hi2, hT4] at h1
                          exact h1
                        have hi2p : 1 ≤ i2 := by omega
                        have hi2b : i2 ≤ b := by omega
                        clear hbi hi2 hT4
                        go_wp2_with fail
                        go_loopw [10] (fun s10 wr => ∃ (j : Nat) (U4 : Array Int), 1 ≤ j ∧ j ≤ b ∧ s10 = .int .i64 j ∧ Hid (Go.Sort.shiftUp Go.Sort.ltInt b j U4 = T4) ∧ Hid (Vec B wr g n cap U4) ∧ Hid (Fr (fun j => j = g) w wr)) (fun s10 _ => b - (intOf s10).toNat)
                        case atStart => exact ⟨i2, U3, hi2p, hi2b, by go_num, HT4.out, V_wu.out, F_wu.out⟩
                        case round =>
                          obtain ⟨j, U4, hj1, hjb, rfl, ht4, hv4, hf4⟩ := hrel
                          by_cases hjlt : j < b
                          · obtain ⟨j', hj'⟩ : ∃ j', j = j' + 1 := ⟨j - 1, by omega⟩
                            have e7 : IntKind.i64.wrap ((j : Int) - 1) = (j' : Int) := by rw [IntWalk.i64_in _ (by omega)]; omega
                            have e8 : j - 1 = j' := by omega
                            have HJM := Lib.hid e8
                            have dj := hv4.out.cell (i := j) (by omega)
                            have dk := hv4.out.cell (i := j') (by omega)
                            obtain ⟨p, hp⟩ : ∃ x, U4[j]! = x := ⟨_, rfl⟩
                            obtain ⟨r, hr⟩ : ∃ x, U4[j']! = x := ⟨_, rfl⟩
                            rw [hp] at dj
                            rw [hr] at dk
                            have HP := Lib.hid hp
                            have HQ := Lib.hid hr
                            have k2 : (j : Int) < (b : Int) := by omega
                            have k3 : (j : Int) < (n : Int) := by omega
                            have k4 : (0 : Int) ≤ (j : Int) := by omega
                            have k5 : (j' : Int) < (n : Int) := by omega
                            have k6 : (0 : Int) ≤ (j' : Int) := by omega
                            have hjn' : j' < n := by omega
                            clear hp hr hj' e8
                            cases hl4 : Go.Sort.ltInt p r with
                            | true =>
                              have HL4 := Lib.hid hl4
                              have HT5 : Hid (Go.Sort.shiftUp Go.Sort.ltInt b (j + 1) (Go.Sort.swp U4 j j') = T4) := by
                                have h1 := (su_go hjlt (by rw [HJM.out, HP.out, HQ.out]; exact hl4)).symm.trans ht4.out
                                rw [HJM.out] at h1
                                exact h1
                              clear hl4
                              go_wp2_with fail
                              go_quiet ((go_at_call 33; exact Calls.quiet_of_same (less_is _ p r true HL4.out)))
                              go_wp2_with fail
                              have hv_wu : Vec B (wr.drewN nq) g n cap U4 := hv4.out.fr ((Fr.refl none0 wr).drewN nq) (fun h => h)
                              have hf_wu : Fr (fun j => j = g) w (wr.drewN nq) := hf4.out.drewN nq
                              have V_wu := Lib.hid hv_wu
                              have F_wu := Lib.hid hf_wu
                              clear hv_wu hf_wu
                              have dj : (wr.drewN nq).cell? ⟨g, j, none⟩ = some (.int .u64 p) := dj
                              have dk : (wr.drewN nq).cell? ⟨g, j', none⟩ = some (.int .u64 r) := dk
                              generalize wr.drewN nq = wu at *
                              obtain ⟨f1, f2, ⟨z3, d3⟩, f3, HS⟩ := V_wu.out.swap (i := j) (j := j') (by omega) HP.out HQ.out
                              have HFS := Lib.hid (F_wu.out.swp (g := g) rfl j j' (.int .u64 r) (.int .u64 p))
                              go_wp2_with fail
                              go_region
                              go_wp2_with fail
                              go_roundw
                              case rel => exact ⟨j + 1, _, by omega, by omega, by go_num, HT5.out, HS.out, HFS.out.drew⟩
                              case measure => simp [intOf]; omega
                            | false =>
                              have HL4 := Lib.hid hl4
                              have HTE : Hid (Go.Sort.partialIns Go.Sort.ltInt a b s' i U4 = R) := by
                                show _ = _
                                rw [← HTE0.out, ← ht4.out, su_stop (Or.inr (by rw [HJM.out, HP.out, HQ.out]; exact hl4))]
                              clear hl4
                              go_wp2_with fail
                              go_quiet ((go_at_call 33; exact Calls.quiet_of_same (less_is _ p r false HL4.out)))
                              go_wp2_with fail
                              go_roundw
                              case rel => exact ⟨s', i, q + 1, U4, hqs, by omega, by omega, by omega, rfl, by go_num, HTE.out, hv4.out.fr ((Fr.refl none0 wr).drewN nq) (fun h => h), hf4.out.drewN nq⟩
                              case measure => simp [intOf]; omega
                          · have k2 : ¬ (j : Int) < (b : Int) := by omega
                            have HTE : Hid (Go.Sort.partialIns Go.Sort.ltInt a b s' i U4 = R) := by
                              show _ = _
                              rw [← HTE0.out, ← ht4.out, su_stop (Or.inl hjlt)]
                            clear hjlt
                            go_wp2_with fail
                            go_roundw
                            case rel => exact ⟨s', i, q + 1, U4, hqs, by omega, by omega, by omega, rfl, by go_num, HTE.out, hv4.out, hf4.out⟩
                            case measure => simp [intOf]; omega
                      · have g4 : ¬ (2 : Int) ≤ (b : Int) - (i : Int) := by omega
                        have HTE : Hid (Go.Sort.partialIns Go.Sort.ltInt a b s' i U3 = R) := by
                          have h1 := HTU.out
                          unfold Go.Sort.fixUp at h1
                          rw [if_neg hbi] at h1
                          exact h1
                        clear hbi
                        go_wp2_with fail
                        go_roundw
                        case rel => exact ⟨s', i, q + 1, U3, hqs, by omega, by omega, by omega, rfl, by go_num, HTE.out, V_wu.out, F_wu.out⟩
                        case measure => simp [intOf]; omega
              · have g2 : ¬ (2 : Int) ≤ (i : Int) - (a : Int) := by omega
                have HTU : Hid (Go.Sort.partialIns Go.Sort.ltInt a b s' i (Go.Sort.fixUp Go.Sort.ltInt b i U1) = R) := by
                  have h1 := HTG.out
                  unfold Go.Sort.fixDown at h1
                  rw [if_neg hia] at h1
                  exact h1
                clear hia
                by_cases hbi : b - i ≥ 2
                · have g4 : (2 : Int) ≤ (b : Int) - (i : Int) := by omega
                  obtain ⟨i2, hi2⟩ : ∃ i2, i + 1 = i2 := ⟨_, rfl⟩
                  have g5 : IntKind.i64.wrap ((i : Int) + 1) = (i2 : Int) := by rw [IntWalk.i64_in _ (by omega)]; omega
                  obtain ⟨T4, hT4⟩ : ∃ T, Go.Sort.shiftUp Go.Sort.ltInt b i2 U1 = T := ⟨_, rfl⟩
                  have HT4 := Lib.hid hT4
                  have HTE0 : Hid (Go.Sort.partialIns Go.Sort.ltInt a b s' i T4 = R) := by
                    have h1 := HTU.out
                    unfold Go.Sort.fixUp at h1
                    rw [if_pos hbi, hi2, hT4] at h1
                    exact h1
                  have hi2p : 1 ≤ i2 := by omega
                  have hi2b : i2 ≤ b := by omega
                  clear hbi hi2 hT4
                  go_wp2_with fail
                  go_loopw [10] (fun s10 wr => ∃ (j : Nat) (U4 : Array Int), 1 ≤ j ∧ j ≤ b ∧ s10 = .int .i64 j ∧ Hid (Go.Sort.shiftUp Go.Sort.ltInt b j U4 = T4) ∧ Hid (Vec B wr g n cap U4) ∧ Hid (Fr (fun j => j = g) w wr)) (fun s10 _ => b - (intOf s10).toNat)
                  case atStart => exact ⟨i2, U1, hi2p, hi2b, by go_num, HT4.out, V_s.out, F_s.out⟩
                  case round =>
                    obtain ⟨j, U4, hj1, hjb, rfl, ht4, hv4, hf4⟩ := hrel
                    by_cases hjlt : j < b
                    · obtain ⟨j', hj'⟩ : ∃ j', j = j' + 1 := ⟨j - 1, by omega⟩
                      have e7 : IntKind.i64.wrap ((j : Int) - 1) = (j' : Int) := by rw [IntWalk.i64_in _ (by omega)]; omega
                      have e8 : j - 1 = j' := by omega
                      have HJM := Lib.hid e8
                      have dj := hv4.out.cell (i := j) (by omega)
                      have dk := hv4.out.cell (i := j') (by omega)
                      obtain ⟨p, hp⟩ : ∃ x, U4[j]! = x := ⟨_, rfl⟩
                      obtain ⟨r, hr⟩ : ∃ x, U4[j']! = x := ⟨_, rfl⟩
                      rw [hp] at dj
                      rw [hr] at dk
                      have HP := Lib.hid hp
                      have HQ := Lib.hid hr
                      have k2 : (j : Int) < (b : Int) := by omega
                      have k3 : (j : Int) < (n : Int) := by omega
                      have k4 : (0 : Int) ≤ (j : Int) := by omega
                      have k5 : (j' : Int) < (n : Int) := by omega
                      have k6 : (0 : Int) ≤ (j' : Int) := by omega
                      have hjn' : j' < n := by omega
                      clear hp hr hj' e8
                      cases hl4 : Go.Sort.ltInt p r with
                      | true =>
                        have HL4 := Lib.hid hl4
                        have HT5 : Hid (Go.Sort.shiftUp Go.Sort.ltInt b (j + 1) (Go.Sort.swp U4 j j') = T4) := by
                          have h1 := (su_go hjlt (by rw [HJM.out, HP.out, HQ.out]; exact hl4)).symm.trans ht4.out
                          rw [HJM.out] at h1
                          exact h1
                        clear hl4
                        go_wp2_with fail
                        go_quiet ((go_at_call 33; exact Calls.quiet_of_same (less_is _ p r true HL4.out)))
                        go_wp2_with fail
                        have hv_wu : Vec B (wr.drewN nq) g n cap U4 := hv4.out.fr ((Fr.refl none0 wr).drewN nq) (fun h => h)
                        have hf_wu : Fr (fun j => j = g) w (wr.drewN nq) := hf4.out.drewN nq
                        have V_wu := Lib.hid hv_wu
                        have F_wu := Lib.hid hf_wu
                        clear hv_wu hf_wu
                        have dj : (wr.drewN nq).cell? ⟨g, j, none⟩ = some (.int .u64 p) := dj
                        have dk : (wr.drewN nq).cell? ⟨g, j', none⟩ = some (.int .u64 r) := dk
                        generalize wr.drewN nq = wu at *
                        obtain ⟨f1, f2, ⟨z3, d3⟩, f3, HS⟩ := V_wu.out.swap (i := j) (j := j') (by omega) HP.out HQ.out
                        have HFS := Lib.hid (F_wu.out.swp (g := g) rfl j j' (.int .u64 r) (.int .u64 p))
                        go_wp2_with fail
                        go_region
                        go_wp2_with fail
                        go_roundw
                        case rel => exact ⟨j + 1, _, by omega, by omega, by go_num, HT5.out, HS.out, HFS.out.drew⟩
                        case measure => simp [intOf]; omega
                      | false =>
                        have HL4 := Lib.hid hl4
                        have HTE : Hid (Go.Sort.partialIns Go.Sort.ltInt a b s' i U4 = R) := by
                          show _ = _
                          rw [← HTE0.out, ← ht4.out, su_stop (Or.inr (by rw [HJM.out, HP.out, HQ.out]; exact hl4))]
                        clear hl4
                        go_wp2_with fail
                        go_quiet ((go_at_call 33; exact Calls.quiet_of_same (less_is _ p r false HL4.out)))
                        go_wp2_with fail
                        go_roundw
                        case rel => exact ⟨s', i, q + 1, U4, hqs, by omega, by omega, by omega, rfl, by go_num, HTE.out, hv4.out.fr ((Fr.refl none0 wr).drewN nq) (fun h => h), hf4.out.drewN nq⟩
                        case measure => simp [intOf]; omega
                    · have k2 : ¬ (j : Int) < (b : Int) := by omega
                      have HTE : Hid (Go.Sort.partialIns Go.Sort.ltInt a b s' i U4 = R) := by
                        show _ = _
                        rw [← HTE0.out, ← ht4.out, su_stop (Or.inl hjlt)]
                      clear hjlt
                      go_wp2_with fail
                      go_roundw
                      case rel => exact ⟨s', i, q + 1, U4, hqs, by omega, by omega, by omega, rfl, by go_num, HTE.out, hv4.out, hf4.out⟩
                      case measure => simp [intOf]; omega
                · have g4 : ¬ (2 : Int) ≤ (b : Int) - (i : Int) := by omega
                  have HTE : Hid (Go.Sort.partialIns Go.Sort.ltInt a b s' i U1 = R) := by
                    have h1 := HTU.out
                    unfold Go.Sort.fixUp at h1
                    rw [if_neg hbi] at h1
                    exact h1
                  clear hbi
                  go_wp2_with fail
                  go_roundw
                  case rel => exact ⟨s', i, q + 1, U1, hqs, by omega, by omega, by omega, rfl, by go_num, HTE.out, V_s.out, F_s.out⟩
                  case measure => simp [intOf]; omega
        · have hib2 : i = b := by omega
          have HIK : Hid (Go.Sort.scanSorted Go.Sort.ltInt U b i0 = b) := by
            show _ = _
            rw [HI.out, ← hti.out, ss_stop (Or.inl hlt), hib2]
          have HRR : Hid ((U, true) = R) := (pi_true HIK.out).symm.trans HTS.out
          have c1 : decide ((i : Int) < (b : Int)) = false := decide_eq_false (by omega)
          have c1n : decide (i < b) = false := decide_eq_false hlt
          have c7 : ((i : Int) == (b : Int)) = true := by simp; omega
          clear hlt hib2 hi' e6
          go_wp2_with fail
          go_quiet (fail)
          go_wp2_with fail
          go_ret
          rw [← HRR.out]
          exact ⟨rfl, hv.out.fr ((Fr.refl none0 wr).drewN nq) (fun h => h), hf.out.drewN nq⟩
end Go.Proofs.Yteglklcaaicjjaa
