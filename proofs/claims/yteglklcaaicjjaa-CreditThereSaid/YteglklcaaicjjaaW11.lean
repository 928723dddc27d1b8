/- Contract of the partition, by a walk. -/
import Derived.Test.YteglklcaaicjjaaW10
namespace Go.Proofs.Yteglklcaaicjjaa
open Go.RowKit Go.WideShapes

def upS (a : Nat) (U : Array Int) (j i : Nat) : Nat := Go.Sort.scanUp (fun x => Go.Sort.ltInt x U[a]!) U j i
def dnS (a : Nat) (U : Array Int) (i j : Nat) : Nat := Go.Sort.scanDown (fun x => !Go.Sort.ltInt x U[a]!) U i j
theorem up_go {a : Nat} {U : Array Int} {i j : Nat} (h : i ≤ j) (hl : Go.Sort.ltInt U[i]! U[a]! = true) : upS a U j i = upS a U j (i + 1) := by
  unfold upS
  rw [Go.Sort.scanUp, if_pos (by rw [hl]; simpa using h)]
theorem up_stop {a : Nat} {U : Array Int} {i j : Nat} (h : ¬ i ≤ j ∨ Go.Sort.ltInt U[i]! U[a]! = false) : upS a U j i = i := by
  unfold upS
  rw [Go.Sort.scanUp, if_neg (by rcases h with h | h <;> simp [h])]
theorem dn_go {a : Nat} {U : Array Int} {i j : Nat} (h : i ≤ j + 1) (hl : Go.Sort.ltInt U[j + 1]! U[a]! = false) : dnS a U i (j + 1) = dnS a U i j := by
  unfold dnS
  rw [Go.Sort.scanDown, if_pos (by rw [hl]; simpa using h)]
theorem dn_stop {a : Nat} {U : Array Int} {i j : Nat} (h : ¬ i ≤ j ∨ Go.Sort.ltInt U[j]! U[a]! = true) (_ : 1 ≤ i) : dnS a U i j = j := by
  unfold dnS
  cases j with
  | zero => rfl
  | succ j => rw [Go.Sort.scanDown, if_neg (by rcases h with h | h <;> simp [h])]
/-- The loop in the partition. -/
def plS (a i j : Nat) (U : Array Int) : Nat × Array Int := Go.Sort.partLoop Go.Sort.ltInt a i j U
theorem pl_eq (a i j : Nat) (U : Array Int) : plS a i j U = if upS a U j i > dnS a U (upS a U j i) j then (dnS a U (upS a U j i) j, U) else plS a (upS a U j i + 1) (dnS a U (upS a U j i) j - 1) (Go.Sort.swp U (upS a U j i) (dnS a U (upS a U j i) j)) :=
  Go.Sort.partLoop_eq Go.Sort.ltInt a i j U
theorem part_eq (V : Array Int) (a b pivot : Nat) (U : Array Int) (hU : Go.Sort.swp V a pivot = U) : Go.Sort.partition Go.Sort.ltInt V a b pivot =
    if upS a U (b - 1) (a + 1) > dnS a U (upS a U (b - 1) (a + 1)) (b - 1) then (dnS a U (upS a U (b - 1) (a + 1)) (b - 1), true, Go.Sort.swp U (dnS a U (upS a U (b - 1) (a + 1)) (b - 1)) a)
    else ((plS a (upS a U (b - 1) (a + 1) + 1) (dnS a U (upS a U (b - 1) (a + 1)) (b - 1) - 1) (Go.Sort.swp U (upS a U (b - 1) (a + 1)) (dnS a U (upS a U (b - 1) (a + 1)) (b - 1)))).1, false,
      Go.Sort.swp (plS a (upS a U (b - 1) (a + 1) + 1) (dnS a U (upS a U (b - 1) (a + 1)) (b - 1) - 1) (Go.Sort.swp U (upS a U (b - 1) (a + 1)) (dnS a U (upS a U (b - 1) (a + 1)) (b - 1)))).2 (plS a (upS a U (b - 1) (a + 1) + 1) (dnS a U (upS a U (b - 1) (a + 1)) (b - 1) - 1) (Go.Sort.swp U (upS a U (b - 1) (a + 1)) (dnS a U (upS a U (b - 1) (a + 1)) (b - 1)))).1 a) := by
  subst hU
  rfl

/-- What the partition leaves. -/
def PartPost (B g n cap : Nat) (R : Nat × Bool × Array Int) (w : World) (e : Ending) (w' : World) : Prop := e = .returned (.tuple #[.int .i64 (R.1 : Int), .bool R.2.1]) ∧ Vec B w' g n cap R.2.2 ∧ Fr (fun j => j = g) w w'
/-- Behind both scans, ahead of the loop. -/
def Fin (a : Nat) (U : Array Int) (R : Nat × Bool × Array Int) (i j : Nat) : Prop :=
  (if i > j then (j, true, Go.Sort.swp U j a) else ((plS a (i + 1) (j - 1) (Go.Sort.swp U i j)).1, false, Go.Sort.swp (plS a (i + 1) (j - 1) (Go.Sort.swp U i j)).2 (plS a (i + 1) (j - 1) (Go.Sort.swp U i j)).1 a)) = R

set_option maxRecDepth 100000 in
set_option maxHeartbeats 16000000 in
theorem part_any (B : Nat) (w : World) (g n cap : Nat) (V : Array Int) (a b pv : Nat) (h : Vec B w g n cap V) (hap : a ≤ pv) (hpb : pv < b) (hbn : b ≤ n) (hn : n ≤ 1000000) :
    Calls Try.prog 35 #[.slice (some ⟨g, 0, none⟩) n cap, .int .i64 a, .int .i64 b, .int .i64 pv] w (PartPost B g n cap (Go.Sort.partition Go.Sort.ltInt V a b pv) w) := by
  unfold PartPost
  obtain ⟨R, hR⟩ : ∃ R, Go.Sort.partition Go.Sort.ltInt V a b pv = R := ⟨_, rfl⟩
  rw [hR]
  obtain ⟨U, hU⟩ : ∃ U, Go.Sort.swp V a pv = U := ⟨_, rfl⟩
  obtain ⟨b1, hb1⟩ : ∃ b1, b1 = b - 1 := ⟨_, rfl⟩
  have HFIN : Hid (Fin a U R (upS a U b1 (a + 1)) (dnS a U (upS a U b1 (a + 1)) b1)) := by
    show _ = _
    rw [hb1, ← hR]
    exact (part_eq V a b pv U hU).symm
  have V_w : Hid (Vec B w g n cap V) := h
  have F_w : Hid (Fr (fun j => j = g) w w) := Fr.refl _ _
  have d1 := h.cell (i := a) (by omega)
  have d2 := h.cell (i := pv) (by omega)
  obtain ⟨x, hx⟩ : ∃ x, V[a]! = x := ⟨_, rfl⟩
  obtain ⟨y, hy⟩ : ∃ x, V[pv]! = x := ⟨_, rfl⟩
  rw [hx] at d1
  rw [hy] at d2
  have HX := Lib.hid hx
  have HY := Lib.hid hy
  have hpn : pv < n := by omega
  have hb1n : b1 < n := by omega
  have hab1 : a ≤ b1 := by omega
  have hbb1 : b1 < b := by omega
  have q1 : (a : Int) < (n : Int) := by omega
  have q2 : (0 : Int) ≤ (a : Int) := by omega
  have q3 : (pv : Int) < (n : Int) := by omega
  have q4 : (0 : Int) ≤ (pv : Int) := by omega
  have q5 : IntKind.i64.wrap ((b : Int) - 1) = (b1 : Int) := by rw [IntWalk.i64_in _ (by omega)]; omega
  have q6 : IntKind.i64.wrap ((a : Int) + 1) = ((a + 1 : Nat) : Int) := by rw [IntWalk.i64_in _ (by omega)]; omega
  obtain ⟨a1, ha1⟩ : ∃ a1, a + 1 = a1 := ⟨_, rfl⟩
  rw [ha1] at q6 HFIN
  have HA1 := Lib.hid ha1
  clear h hR hx hy hb1 ha1
  obtain ⟨f1, f2, ⟨z3, d3⟩, f3, HS⟩ := V_w.out.swap (i := a) (j := pv) (by omega) HX.out HY.out
  have HFS := Lib.hid (F_w.out.swp (g := g) rfl a pv (.int .u64 y) (.int .u64 x))
  rw [hU] at HS
  clear hU
  go_enter Try.func35, Try.ntmps35
  go_wp2_with fail
  go_region
  have V_w1 : Hid (Vec B (((w.setCell ⟨g, a, none⟩ (.int .u64 y)).setCell ⟨g, pv, none⟩ (.int .u64 x)).drew) g n cap U) := HS.out.fr ((Fr.refl none0 _).drew) (fun h => h)
  have F_w1 := Lib.hid HFS.out.drew
  generalize ((w.setCell ⟨g, a, none⟩ (.int .u64 y)).setCell ⟨g, pv, none⟩ (.int .u64 x)).drew = w1 at *
  clear HS HFS f1 f2 d3 f3 d1 d2 HX HY
  obtain ⟨x0, hx0⟩ : ∃ x, U[a]! = x := ⟨_, rfl⟩
  have HX0 := Lib.hid hx0
  have han : a < n := by omega
  clear hx0
  go_wp2_with fail
  obtain ⟨I, hI⟩ : ∃ I, upS a U b1 a1 = I := ⟨_, rfl⟩
  have HUPI := Lib.hid hI
  have ha1 := HA1.out
  have haa : a < a1 := by omega
  have hab2 : a1 ≤ b1 + 1 := by omega
  clear hI ha1
  go_loopw [10] (fun s10 wr => ∃ (i : Nat), a1 ≤ i ∧ i ≤ b1 + 1 ∧ s10 = .int .i64 i ∧ Hid (upS a U b1 i = I) ∧ Hid (Vec B wr g n cap U) ∧ Hid (Fr (fun j => j = g) w wr)) (fun s10 _ => b1 + 1 - (intOf s10).toNat)
  case atStart => exact ⟨a1, Nat.le_refl _, hab2, rfl, HUPI.out, V_w1.out, F_w1.out⟩
  case round =>
    obtain ⟨i, hai, hij, rfl, ht, hv, hf⟩ := hrel
    have da := hv.out.cell (i := a) han
    rw [HX0.out] at da
    by_cases hle : i ≤ b1
    · have di := hv.out.cell (i := i) (by omega)
      obtain ⟨y, hy⟩ : ∃ x, U[i]! = x := ⟨_, rfl⟩
      rw [hy] at di
      have HY := Lib.hid hy
      have c1 : decide ((i : Int) ≤ (b1 : Int)) = true := decide_eq_true (by omega)
      have c2 : (i : Int) ≤ (b1 : Int) := by omega
      have c3 : (i : Int) < (n : Int) := by omega
      have c4 : (0 : Int) ≤ (i : Int) := by omega
      clear hy
      cases hl : Go.Sort.ltInt y x0 with
      | true =>
        have HL := Lib.hid hl
        have HT : Hid (upS a U b1 (i + 1) = I) := (up_go hle (by rw [HY.out, HX0.out]; exact hl)).symm.trans ht.out
        clear hl
        go_wp2_with fail
        go_quiet ((go_at_call 33; exact Calls.quiet_of_same (less_is _ y x0 true HL.out)))
        go_wp2_with fail
        go_roundw
        case rel => exact ⟨i + 1, by omega, by omega, by go_num, HT.out, hv.out.fr ((Fr.refl none0 wr).drewN nq) (fun h => h), hf.out.drewN nq⟩
        case measure => simp [intOf]; omega
      | false =>
        have HL := Lib.hid hl
        have HI : Hid (i = I) := (up_stop (Or.inr (by rw [HY.out, HX0.out]; exact hl))).symm.trans ht.out
        clear hl
        go_wp2_with fail
        go_quiet ((go_at_call 33; exact Calls.quiet_of_same (less_is _ y x0 false HL.out)))
        go_wp2_with fail
        have hv_wa : Vec B (wr.drewN nq) g n cap U := hv.out.fr ((Fr.refl none0 wr).drewN nq) (fun h => h)
        have hf_wa : Fr (fun j => j = g) w (wr.drewN nq) := hf.out.drewN nq
        have V_wa := Lib.hid hv_wa
        have F_wa := Lib.hid hf_wa
        clear hv_wa hf_wa
        have da : (wr.drewN nq).cell? ⟨g, a, none⟩ = some (.int .u64 x0) := da
        have di : (wr.drewN nq).cell? ⟨g, i, none⟩ = some (.int .u64 y) := di
        generalize wr.drewN nq = wa at *
        obtain ⟨J, hJ⟩ : ∃ J, dnS a U i b1 = J := ⟨_, rfl⟩
        have HDN := Lib.hid hJ
        have HNL : Hid (Go.Sort.ltInt U[i]! U[a]! = false) := by show _ = _; rw [HY.out, HX0.out]; exact HL.out
        have HFIN1 : Hid (Fin a U R i J) := by
          have h1 := HFIN.out
          rw [HUPI.out, ← HI.out, hJ] at h1
          exact h1
        have hi1 : i ≤ b1 + 1 := by omega
        clear hJ HL hle c1 c2
        go_loopw [11] (fun s11 wr => ∃ (j : Nat), i ≤ j + 1 ∧ j ≤ b1 ∧ s11 = .int .i64 j ∧ Hid (dnS a U i j = J) ∧ Hid (Vec B wr g n cap U) ∧ Hid (Fr (fun j => j = g) w wr)) (fun s11 _ => (intOf s11).toNat)
        case atStart => exact ⟨b1, by omega, Nat.le_refl _, rfl, HDN.out, V_wa.out, F_wa.out⟩
        case round =>
          obtain ⟨j, hij2, hjj, rfl, ht2, hv, hf⟩ := hrel
          have da := hv.out.cell (i := a) han
          rw [HX0.out] at da
          by_cases hle2 : i ≤ j
          · have dj := hv.out.cell (i := j) (by omega)
            obtain ⟨z, hz⟩ : ∃ x, U[j]! = x := ⟨_, rfl⟩
            rw [hz] at dj
            have HZ := Lib.hid hz
            have e1 : decide ((i : Int) ≤ (j : Int)) = true := decide_eq_true (by omega)
            have e2 : (i : Int) ≤ (j : Int) := by omega
            have e3 : (j : Int) < (n : Int) := by omega
            have e4 : (0 : Int) ≤ (j : Int) := by omega
            obtain ⟨j', hj'⟩ : ∃ j', j = j' + 1 := ⟨j - 1, by omega⟩
            have e5 : IntKind.i64.wrap ((j : Int) - 1) = (j' : Int) := by rw [IntWalk.i64_in _ (by omega)]; omega
            have HJ := Lib.hid hj'
            clear hz
            cases hl : Go.Sort.ltInt z x0 with
            | false =>
              have HL := Lib.hid hl
              have HT : Hid (dnS a U i j' = J) := by
                show _ = _
                rw [← ht2.out, hj']
                exact (dn_go (by omega) (by rw [← hj', HZ.out, HX0.out]; exact hl)).symm
              have hjn : i ≤ j' + 1 := by omega
              have hjn2 : j' ≤ b1 := by omega
              clear hl hj'
              go_wp2_with fail
              go_quiet ((go_at_call 33; exact Calls.quiet_of_same (less_is _ z x0 false HL.out)))
              go_wp2_with fail
              go_roundw
              case rel => exact ⟨j', hjn, hjn2, by go_num, HT.out, hv.out.fr ((Fr.refl none0 wr).drewN nq) (fun h => h), hf.out.drewN nq⟩
              case measure => simp [intOf]; have := HJ.out; omega
            | true =>
              have HL := Lib.hid hl
              have HJT : Hid (j = J) := (dn_stop (Or.inr (by rw [HZ.out, HX0.out]; exact hl)) (by omega)).symm.trans ht2.out
              have HNE : Hid (i ≠ j) := fun e => by
                have h1 := HNL.out
                rw [e, HZ.out, HX0.out, hl] at h1
                cases h1
              clear hl hj'
              go_wp2_with fail
              go_quiet ((go_at_call 33; exact Calls.quiet_of_same (less_is _ z x0 true HL.out)))
              go_wp2_with fail
              have hv_wb : Vec B (wr.drewN nq) g n cap U := hv.out.fr ((Fr.refl none0 wr).drewN nq) (fun h => h)
              have hf_wb : Fr (fun j => j = g) w (wr.drewN nq) := hf.out.drewN nq
              have V_wb := Lib.hid hv_wb
              have F_wb := Lib.hid hf_wb
              clear hv_wb hf_wb
              have da : (wr.drewN nq).cell? ⟨g, a, none⟩ = some (.int .u64 x0) := da
              have dj : (wr.drewN nq).cell? ⟨g, j, none⟩ = some (.int .u64 z) := dj
              generalize wr.drewN nq = wb at *
              have hilt : i < j := by have := HNE.out; omega
              have n1 : ¬ (j : Int) < (i : Int) := by omega
              have di := V_wb.out.cell (i := i) (by omega)
              rw [HY.out] at di
              have HPL0 : Hid ((fun r : Nat × Array Int => (r.1, false, Go.Sort.swp r.2 r.1 a)) (plS a (i + 1) j' (Go.Sort.swp U i j)) = R) := by
                show _ = _
                have h1 := HFIN1.out
                unfold Fin at h1
                rw [← HJT.out, if_neg (by omega)] at h1
                rw [← h1, HJ.out]
                rfl
              have HXS : Hid ((Go.Sort.swp U i j)[a]! = x0) := by
                show _ = _
                rw [Go.Sort.swp_other U i j a (by omega) (by omega)]
                exact HX0.out
              have hjn3 : j < n := by omega
              obtain ⟨f1, f2, ⟨z3, d3⟩, f3, HS⟩ := V_wb.out.swap (i := i) (j := j) (by omega) HY.out HZ.out
              have HFS := Lib.hid (F_wb.out.swp (g := g) rfl i j (.int .u64 z) (.int .u64 y))
              go_wp2_with fail
              go_region
              go_wp2_with fail
              go_loopw [10, 11] (fun s10 s11 wr => ∃ (i0 j0 : Nat) (U3 : Array Int), a < i0 ∧ i0 ≤ j0 + 1 ∧ j0 ≤ b1 ∧ s10 = .int .i64 i0 ∧ s11 = .int .i64 j0 ∧ Hid ((fun r : Nat × Array Int => (r.1, false, Go.Sort.swp r.2 r.1 a)) (plS a i0 j0 U3) = R) ∧ Hid (U3[a]! = x0) ∧ Hid (Vec B wr g n cap U3) ∧ Hid (Fr (fun j => j = g) w wr)) (fun s10 s11 _ => (intOf s11).toNat + 1 - (intOf s10).toNat)
              case atStart => exact ⟨i + 1, j', Go.Sort.swp U i j, by omega, by have := HJ.out; omega, by have := HJ.out; omega, by go_num, by go_num, HPL0.out, HXS.out, HS.out, HFS.out.drew⟩
              case round =>
                clear HX0
                obtain ⟨i0, j0, U3, hai0, hij0, hjb0, rfl, rfl, HPL, HX0, hv0, hf0⟩ := hrel
                obtain ⟨I3, hI3⟩ : ∃ I, upS a U3 j0 i0 = I := ⟨_, rfl⟩
                have HUP := Lib.hid hI3
                clear hI3
                go_wp2_with fail
                go_loopw [10] (fun s10 wr => ∃ (i : Nat), i0 ≤ i ∧ i ≤ j0 + 1 ∧ s10 = .int .i64 i ∧ Hid (upS a U3 j0 i = I3) ∧ Hid (Vec B wr g n cap U3) ∧ Hid (Fr (fun j => j = g) w wr)) (fun s10 _ => j0 + 1 - (intOf s10).toNat)
                case atStart => exact ⟨i0, Nat.le_refl _, hij0, rfl, HUP.out, hv0.out, hf0.out⟩
                case round =>
                  obtain ⟨i, hai, hij, rfl, ht, hv, hf⟩ := hrel
                  have da := hv.out.cell (i := a) han
                  rw [HX0.out] at da
                  by_cases hle : i ≤ j0
                  · have di := hv.out.cell (i := i) (by omega)
                    obtain ⟨y, hy⟩ : ∃ x, U3[i]! = x := ⟨_, rfl⟩
                    rw [hy] at di
                    have HY := Lib.hid hy
                    have c1 : decide ((i : Int) ≤ (j0 : Int)) = true := decide_eq_true (by omega)
                    have c2 : (i : Int) ≤ (j0 : Int) := by omega
                    have c3 : (i : Int) < (n : Int) := by omega
                    have c4 : (0 : Int) ≤ (i : Int) := by omega
                    clear hy
                    cases hl : Go.Sort.ltInt y x0 with
                    | true =>
                      have HL := Lib.hid hl
                      have HT : Hid (upS a U3 j0 (i + 1) = I3) := (up_go hle (by rw [HY.out, HX0.out]; exact hl)).symm.trans ht.out
                      clear hl
                      go_wp2_with fail
                      go_quiet ((go_at_call 33; exact Calls.quiet_of_same (less_is _ y x0 true HL.out)))
                      go_wp2_with fail
                      go_roundw
                      case rel => exact ⟨i + 1, by omega, by omega, by go_num, HT.out, hv.out.fr ((Fr.refl none0 wr).drewN nq) (fun h => h), hf.out.drewN nq⟩
                      case measure => simp [intOf]; omega
                    | false =>
                      have HL := Lib.hid hl
                      have HI : Hid (i = I3) := (up_stop (Or.inr (by rw [HY.out, HX0.out]; exact hl))).symm.trans ht.out
                      clear hl
                      go_wp2_with fail
                      go_quiet ((go_at_call 33; exact Calls.quiet_of_same (less_is _ y x0 false HL.out)))
                      go_wp2_with fail
                      have hv_wa : Vec B (wr.drewN nq) g n cap U3 := hv.out.fr ((Fr.refl none0 wr).drewN nq) (fun h => h)
                      have hf_wa : Fr (fun j => j = g) w (wr.drewN nq) := hf.out.drewN nq
                      have V_wa := Lib.hid hv_wa
                      have F_wa := Lib.hid hf_wa
                      clear hv_wa hf_wa
                      have da : (wr.drewN nq).cell? ⟨g, a, none⟩ = some (.int .u64 x0) := da
                      have di : (wr.drewN nq).cell? ⟨g, i, none⟩ = some (.int .u64 y) := di
                      generalize wr.drewN nq = wa at *
                      obtain ⟨J, hJ⟩ : ∃ J, dnS a U3 i j0 = J := ⟨_, rfl⟩
                      have HDN := Lib.hid hJ
                      have HNL : Hid (Go.Sort.ltInt U3[i]! U3[a]! = false) := by show _ = _; rw [HY.out, HX0.out]; exact HL.out
                      have hi1 : i ≤ j0 + 1 := by omega
                      clear hJ HL hle c1 c2
                      go_loopw [11] (fun s11 wr => ∃ (j : Nat), i ≤ j + 1 ∧ j ≤ j0 ∧ s11 = .int .i64 j ∧ Hid (dnS a U3 i j = J) ∧ Hid (Vec B wr g n cap U3) ∧ Hid (Fr (fun j => j = g) w wr)) (fun s11 _ => (intOf s11).toNat)
                      case atStart => exact ⟨j0, by omega, Nat.le_refl _, rfl, HDN.out, V_wa.out, F_wa.out⟩
                      case round =>
                        obtain ⟨j, hij2, hjj, rfl, ht2, hv, hf⟩ := hrel
                        have da := hv.out.cell (i := a) han
                        rw [HX0.out] at da
                        by_cases hle2 : i ≤ j
                        · have dj := hv.out.cell (i := j) (by omega)
                          obtain ⟨z, hz⟩ : ∃ x, U3[j]! = x := ⟨_, rfl⟩
                          rw [hz] at dj
                          have HZ := Lib.hid hz
                          have e1 : decide ((i : Int) ≤ (j : Int)) = true := decide_eq_true (by omega)
                          have e2 : (i : Int) ≤ (j : Int) := by omega
                          have e3 : (j : Int) < (n : Int) := by omega
                          have e4 : (0 : Int) ≤ (j : Int) := by omega
                          obtain ⟨j', hj'⟩ : ∃ j', j = j' + 1 := ⟨j - 1, by omega⟩
                          have e5 : IntKind.i64.wrap ((j : Int) - 1) = (j' : Int) := by rw [IntWalk.i64_in _ (by omega)]; omega
                          have HJ := Lib.hid hj'
                          clear hz
                          cases hl : Go.Sort.ltInt z x0 with
                          | false =>
                            have HL := Lib.hid hl
                            have HT : Hid (dnS a U3 i j' = J) := by
                              show _ = _
                              rw [← ht2.out, hj']
                              exact (dn_go (by omega) (by rw [← hj', HZ.out, HX0.out]; exact hl)).symm
                            have hjn : i ≤ j' + 1 := by omega
                            have hjn2 : j' ≤ j0 := by omega
                            clear hl hj'
                            go_wp2_with fail
                            go_quiet ((go_at_call 33; exact Calls.quiet_of_same (less_is _ z x0 false HL.out)))
                            go_wp2_with fail
                            go_roundw
                            case rel => exact ⟨j', hjn, hjn2, by go_num, HT.out, hv.out.fr ((Fr.refl none0 wr).drewN nq) (fun h => h), hf.out.drewN nq⟩
                            case measure => simp [intOf]; have := HJ.out; omega
                          | true =>
                            have HL := Lib.hid hl
                            have HJT : Hid (j = J) := (dn_stop (Or.inr (by rw [HZ.out, HX0.out]; exact hl)) (by omega)).symm.trans ht2.out
                            have HNE : Hid (i ≠ j) := fun e => by
                              have h1 := HNL.out
                              rw [e, HZ.out, HX0.out, hl] at h1
                              cases h1
                            clear hl hj'
                            go_wp2_with fail
                            go_quiet ((go_at_call 33; exact Calls.quiet_of_same (less_is _ z x0 true HL.out)))
                            go_wp2_with fail
                            have hv_wb : Vec B (wr.drewN nq) g n cap U3 := hv.out.fr ((Fr.refl none0 wr).drewN nq) (fun h => h)
                            have hf_wb : Fr (fun j => j = g) w (wr.drewN nq) := hf.out.drewN nq
                            have V_wb := Lib.hid hv_wb
                            have F_wb := Lib.hid hf_wb
                            clear hv_wb hf_wb
                            have da : (wr.drewN nq).cell? ⟨g, a, none⟩ = some (.int .u64 x0) := da
                            have dj : (wr.drewN nq).cell? ⟨g, j, none⟩ = some (.int .u64 z) := dj
                            generalize wr.drewN nq = wb at *
                            have hilt : i < j := by have := HNE.out; omega
                            have n1 : ¬ (j : Int) < (i : Int) := by omega
                            have di := V_wb.out.cell (i := i) (by omega)
                            rw [HY.out] at di
                            have HPL3 : Hid ((fun r : Nat × Array Int => (r.1, false, Go.Sort.swp r.2 r.1 a)) (plS a (i + 1) j' (Go.Sort.swp U3 i j)) = R) := by
                              show _ = _
                              have h1 : plS a i0 j0 U3 = plS a (i + 1) j' (Go.Sort.swp U3 i j) := by
                                rw [pl_eq, HUP.out, ← HI.out, HDN.out, ← HJT.out, if_neg (by omega), HJ.out]
                                rfl
                              have h2 := HPL.out
                              rw [h1] at h2
                              exact h2
                            have HXS : Hid ((Go.Sort.swp U3 i j)[a]! = x0) := by
                              show _ = _
                              rw [Go.Sort.swp_other U3 i j a (by omega) (by omega)]
                              exact HX0.out
                            have hjn3 : j < n := by omega
                            obtain ⟨f1, f2, ⟨z3, d3⟩, f3, HS⟩ := V_wb.out.swap (i := i) (j := j) (by omega) HY.out HZ.out
                            have HFS := Lib.hid (F_wb.out.swp (g := g) rfl i j (.int .u64 z) (.int .u64 y))
                            go_wp2_with fail
                            go_region
                            go_wp2_with fail
                            go_roundw
                            case rel => exact ⟨i + 1, j', Go.Sort.swp U3 i j, by omega, by have := HJ.out; omega, by have := HJ.out; omega, by go_num, by go_num, HPL3.out, HXS.out, HS.out, HFS.out.drew⟩
                            case measure => simp [intOf]; have := HJ.out; omega
                        · have e1 : decide ((i : Int) ≤ (j : Int)) = false := decide_eq_false (by omega)
                          have e1n : decide (i ≤ j) = false := decide_eq_false hle2
                          have e2 : (j : Int) < (i : Int) := by omega
                          have HJT : Hid (j = J) := (dn_stop (Or.inl hle2) (by omega)).symm.trans ht2.out
                          have HGT : Hid (i > j) := by show _ > _; omega
                          clear hle2
                          go_wp2_with fail
                          go_quiet (fail)
                          go_wp2_with fail
                          have hv_wb : Vec B (wr.drewN nq) g n cap U3 := hv.out.fr ((Fr.refl none0 wr).drewN nq) (fun h => h)
                          have hf_wb : Fr (fun j => j = g) w (wr.drewN nq) := hf.out.drewN nq
                          have V_wb := Lib.hid hv_wb
                          have F_wb := Lib.hid hf_wb
                          clear hv_wb hf_wb
                          have da : (wr.drewN nq).cell? ⟨g, a, none⟩ = some (.int .u64 x0) := da
                          generalize wr.drewN nq = wb at *
                          go_wp2_with fail
                          have HRR : Hid ((j, false, Go.Sort.swp U3 j a) = R) := by
                            show _ = _
                            have h1 : plS a i0 j0 U3 = (j, U3) := by
                              rw [pl_eq, HUP.out, ← HI.out, HDN.out, ← HJT.out, if_pos HGT.out]
                            have h2 := HPL.out
                            rw [h1] at h2
                            exact h2
                          have dj2 := V_wb.out.cell (i := j) (by omega)
                          obtain ⟨zz, hzz⟩ : ∃ x, U3[j]! = x := ⟨_, rfl⟩
                          rw [hzz] at dj2
                          have HZZ := Lib.hid hzz
                          have g3 : (j : Int) < (n : Int) := by omega
                          have g4 : (0 : Int) ≤ (j : Int) := by omega
                          have hjn3 : j < n := by omega
                          clear hzz
                          obtain ⟨f1, f2, ⟨z3, d3⟩, f3, HS⟩ := V_wb.out.swap (i := j) (j := a) (by omega) HZZ.out HX0.out
                          have HFS := Lib.hid (F_wb.out.swp (g := g) rfl j a (.int .u64 x0) (.int .u64 zz))
                          go_wp2_with fail
                          go_region
                          go_wp2_with fail
                          go_ret2
                          rw [← HRR.out]
                          exact ⟨rfl, HS.out, HFS.out.drew⟩
                  · have c1 : decide ((i : Int) ≤ (j0 : Int)) = false := decide_eq_false (by omega)
                    have c1n : decide (i ≤ j0) = false := decide_eq_false hle
                    have hie : i = j0 + 1 := by omega
                    have HIE := Lib.hid hie
                    have HI : Hid (i = I3) := (up_stop (Or.inl hle)).symm.trans ht.out
                    clear hle hie
                    go_wp2_with fail
                    go_quiet (fail)
                    go_wp2_with fail
                    have hv_wa : Vec B (wr.drewN nq) g n cap U3 := hv.out.fr ((Fr.refl none0 wr).drewN nq) (fun h => h)
                    have hf_wa : Fr (fun j => j = g) w (wr.drewN nq) := hf.out.drewN nq
                    have V_wa := Lib.hid hv_wa
                    have F_wa := Lib.hid hf_wa
                    clear hv_wa hf_wa
                    have da : (wr.drewN nq).cell? ⟨g, a, none⟩ = some (.int .u64 x0) := da
                    generalize wr.drewN nq = wa at *
                    have HGT : Hid (i > j0) := by show _ > _; have := HIE.out; omega
                    have HRR : Hid ((j0, false, Go.Sort.swp U3 j0 a) = R) := by
                      show _ = _
                      have h1 : plS a i0 j0 U3 = (j0, U3) := by
                        rw [pl_eq, HUP.out, ← HI.out, dn_stop (Or.inl (by have := HGT.out; omega)) (by omega), if_pos HGT.out]
                      have h2 := HPL.out
                      rw [h1] at h2
                      exact h2
                    have e2 : (j0 : Int) < (i : Int) := by have := HGT.out; omega
                    have e1 : decide ((i : Int) ≤ (j0 : Int)) = false := c1
                    go_loopw [11] (fun s11 wr => s11 = .int .i64 j0 ∧ Hid (Vec B wr g n cap U3) ∧ Hid (Fr (fun j => j = g) w wr)) (fun s11 _ => (intOf s11).toNat)
                    case atStart => exact ⟨rfl, V_wa.out, F_wa.out⟩
                    case round =>
                      obtain ⟨rfl, hv, hf⟩ := hrel
                      go_wp2_with fail
                      go_quiet (fail)
                      go_wp2_with fail
                      have hv_wb : Vec B (wr.drewN nq) g n cap U3 := hv.out.fr ((Fr.refl none0 wr).drewN nq) (fun h => h)
                      have hf_wb : Fr (fun j => j = g) w (wr.drewN nq) := hf.out.drewN nq
                      have V_wb := Lib.hid hv_wb
                      have F_wb := Lib.hid hf_wb
                      clear hv_wb hf_wb
                      generalize wr.drewN nq = wb at *
                      go_wp2_with fail
                      have da := V_wb.out.cell (i := a) han
                      rw [HX0.out] at da
                      have dj2 := V_wb.out.cell (i := j0) (by omega)
                      obtain ⟨zz, hzz⟩ : ∃ x, U3[j0]! = x := ⟨_, rfl⟩
                      rw [hzz] at dj2
                      have HZZ := Lib.hid hzz
                      have g3 : (j0 : Int) < (n : Int) := by omega
                      have g4 : (0 : Int) ≤ (j0 : Int) := by omega
                      have hjn3 : j0 < n := by omega
                      clear hzz
                      obtain ⟨f1, f2, ⟨z3, d3⟩, f3, HS⟩ := V_wb.out.swap (i := j0) (j := a) (by omega) HZZ.out HX0.out
                      have HFS := Lib.hid (F_wb.out.swp (g := g) rfl j0 a (.int .u64 x0) (.int .u64 zz))
                      go_wp2_with fail
                      go_region
                      go_wp2_with fail
                      go_ret2
                      rw [← HRR.out]
                      exact ⟨rfl, HS.out, HFS.out.drew⟩
          · have e1 : decide ((i : Int) ≤ (j : Int)) = false := decide_eq_false (by omega)
            have e1n : decide (i ≤ j) = false := decide_eq_false hle2
            have e2 : (j : Int) < (i : Int) := by omega
            have HJT : Hid (j = J) := (dn_stop (Or.inl hle2) (by omega)).symm.trans ht2.out
            have HGT : Hid (i > j) := by show _ > _; omega
            clear hle2
            go_wp2_with fail
            go_quiet (fail)
            go_wp2_with fail
            have hv_wb : Vec B (wr.drewN nq) g n cap U := hv.out.fr ((Fr.refl none0 wr).drewN nq) (fun h => h)
            have hf_wb : Fr (fun j => j = g) w (wr.drewN nq) := hf.out.drewN nq
            have V_wb := Lib.hid hv_wb
            have F_wb := Lib.hid hf_wb
            clear hv_wb hf_wb
            have da : (wr.drewN nq).cell? ⟨g, a, none⟩ = some (.int .u64 x0) := da
            generalize wr.drewN nq = wb at *
            go_wp2_with fail
            have HFIN2 : Hid (Fin a U R i j) := by rw [HJT.out]; exact HFIN1.out
            have HRR : Hid ((j, true, Go.Sort.swp U j a) = R) := by
              show _ = _
              have h1 := HFIN2.out
              unfold Fin at h1
              rw [if_pos HGT.out] at h1
              exact h1
            have dj2 := V_wb.out.cell (i := j) (by omega)
            obtain ⟨zz, hzz⟩ : ∃ x, U[j]! = x := ⟨_, rfl⟩
            rw [hzz] at dj2
            have HZZ := Lib.hid hzz
            have g3 : (j : Int) < (n : Int) := by omega
            have g4 : (0 : Int) ≤ (j : Int) := by omega
            have hjn3 : j < n := by omega
            clear hzz
            obtain ⟨f1, f2, ⟨z3, d3⟩, f3, HS⟩ := V_wb.out.swap (i := j) (j := a) (by omega) HZZ.out HX0.out
            have HFS := Lib.hid (F_wb.out.swp (g := g) rfl j a (.int .u64 x0) (.int .u64 zz))
            go_wp2_with fail
            go_region
            go_wp2_with fail
            go_ret2
            rw [← HRR.out]
            exact ⟨rfl, HS.out, HFS.out.drew⟩
    · have c1 : decide ((i : Int) ≤ (b1 : Int)) = false := decide_eq_false (by omega)
      have c1n : decide (i ≤ b1) = false := decide_eq_false hle
      have hie : i = b1 + 1 := by omega
      have HIE := Lib.hid hie
      have HI : Hid (i = I) := (up_stop (Or.inl hle)).symm.trans ht.out
      clear hle hie
      go_wp2_with fail
      go_quiet (fail)
      go_wp2_with fail
      have hv_wa : Vec B (wr.drewN nq) g n cap U := hv.out.fr ((Fr.refl none0 wr).drewN nq) (fun h => h)
      have hf_wa : Fr (fun j => j = g) w (wr.drewN nq) := hf.out.drewN nq
      have V_wa := Lib.hid hv_wa
      have F_wa := Lib.hid hf_wa
      clear hv_wa hf_wa
      have da : (wr.drewN nq).cell? ⟨g, a, none⟩ = some (.int .u64 x0) := da
      generalize wr.drewN nq = wa at *
      have HGT : Hid (i > b1) := by show _ > _; have := HIE.out; omega
      have HFIN2 : Hid (Fin a U R i b1) := by
        have h1 := HFIN.out
        rw [HUPI.out, ← HI.out, dn_stop (Or.inl (by have := HGT.out; omega)) (by omega)] at h1
        exact h1
      have e2 : (b1 : Int) < (i : Int) := by have := HGT.out; omega
      have e1 : decide ((i : Int) ≤ (b1 : Int)) = false := c1
      go_loopw [11] (fun s11 wr => s11 = .int .i64 b1 ∧ Hid (Vec B wr g n cap U) ∧ Hid (Fr (fun j => j = g) w wr)) (fun s11 _ => (intOf s11).toNat)
      case atStart => exact ⟨rfl, V_wa.out, F_wa.out⟩
      case round =>
        obtain ⟨rfl, hv, hf⟩ := hrel
        go_wp2_with fail
        go_quiet (fail)
        go_wp2_with fail
        have hv_wb : Vec B (wr.drewN nq) g n cap U := hv.out.fr ((Fr.refl none0 wr).drewN nq) (fun h => h)
        have hf_wb : Fr (fun j => j = g) w (wr.drewN nq) := hf.out.drewN nq
        have V_wb := Lib.hid hv_wb
        have F_wb := Lib.hid hf_wb
        clear hv_wb hf_wb
        generalize wr.drewN nq = wb at *
        go_wp2_with fail
        have da := V_wb.out.cell (i := a) han
        rw [HX0.out] at da
        have HRR : Hid ((b1, true, Go.Sort.swp U b1 a) = R) := by
          show _ = _
          have h1 := HFIN2.out
          unfold Fin at h1
          rw [if_pos HGT.out] at h1
          exact h1
        have dj2 := V_wb.out.cell (i := b1) (by omega)
        obtain ⟨zz, hzz⟩ : ∃ x, U[b1]! = x := ⟨_, rfl⟩
        rw [hzz] at dj2
        have HZZ := Lib.hid hzz
        have g3 : (b1 : Int) < (n : Int) := by omega
        have g4 : (0 : Int) ≤ (b1 : Int) := by omega
        have hjn3 : b1 < n := by omega
        clear hzz
        obtain ⟨f1, f2, ⟨z3, d3⟩, f3, HS⟩ := V_wb.out.swap (i := b1) (j := a) (by omega) HZZ.out HX0.out
        have HFS := Lib.hid (F_wb.out.swp (g := g) rfl b1 a (.int .u64 x0) (.int .u64 zz))
        go_wp2_with fail
        go_region
        go_wp2_with fail
        go_ret2
        rw [← HRR.out]
        exact ⟨rfl, HS.out, HFS.out.drew⟩
end Go.Proofs.Yteglklcaaicjjaa
