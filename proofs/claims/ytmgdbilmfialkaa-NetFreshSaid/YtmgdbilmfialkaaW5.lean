/- Contract of Move, by walks. -/
import Derived.Test.YtmgdbilmfialkaaW4
namespace Go.Proofs.Ytmgdbilmfialkaa
open Go.RowKit Go.WideShapes Go.Maps

/-- How many bytes are moved. -/
def mostR (most : Int) (n : Nat) : Nat := if most < 1 ∨ (n : Int) < most then n else most.toNat
theorem mostR_le (most : Int) (n : Nat) : mostR most n ≤ n := by unfold mostR; split <;> omega
def moveR (A : List Ab) (k way most : Int) : List Value × Int × List Ab := match findA A k with
  | none => ([], 7, A)
  | some x => if way = 0 then (x.b0.take (mostR most x.b0.length), 0, setA A k 0 (x.b0.drop (mostR most x.b0.length)))
    else if way = 1 then (x.b1.take (mostR most x.b1.length), 0, setA A k 1 (x.b1.drop (mostR most x.b1.length))) else ([], 2, A)
section
variable {L : List Ln} {k way most : Int} {x : Ln}
theorem move_none (h : findL L k = none) : moveR (L.map Ln.ab) k way most = ([], 7, L.map Ln.ab) := by unfold moveR; rw [find_ab, h]; rfl
theorem move_some (h : findL L k = some x) : moveR (L.map Ln.ab) k way most = if way = 0 then (x.b0.take (mostR most x.b0.length), 0, setA (L.map Ln.ab) k 0 (x.b0.drop (mostR most x.b0.length)))
    else if way = 1 then (x.b1.take (mostR most x.b1.length), 0, setA (L.map Ln.ab) k 1 (x.b1.drop (mostR most x.b1.length))) else ([], 2, L.map Ln.ab) := by unfold moveR; rw [find_ab, h]; rfl
end
def MovePost (B pb mb : Nat) (last : Int) (r : List Value × Int × List Ab) (own : Own) (w : World) (e : Ending) (w' : World) : Prop :=
  ∃ ro rc own', e = .returned (.tuple #[.slice ro r.1.length rc, .int .i64 r.2.1]) ∧ Row w.heap.size w' 5 1 ro r.1.length rc r.1 ∧ AllB r.1 ∧ (∀ i, rowOf ro i → own' i = (0, 9)) ∧ NetA B w' pb mb last r.2.2 own' ∧ Fr (FP own) w w' ∧ ∀ i, i < w.heap.size → own' i = own i
theorem move_same {B pb mb : Nat} {last : Int} {A : List Ab} {own : Own} {w : World} {er : Int} (h : NetA B w pb mb last A own) : MovePost B pb mb last ([], er, A) own w (.returned (.tuple #[.slice none 0 0, .int .i64 er])) w :=
  ⟨none, 0, own, rfl, Row.nil _ _ _ _, AllB.nil, (fun i hi => by obtain ⟨a, ha, _⟩ := hi; cases ha), h, Fr.refl _ _, fun _ _ => rfl⟩

set_option maxRecDepth 10000 in
set_option maxHeartbeats 2000000 in
theorem move_ok0 (B : Nat) (w : World) (pb mb : Nat) (last : Int) (L : List Ln) (own : Own) (k most : Int) (x : Ln) (h : NetAt B w pb mb last L own) (hB : B ≤ w.heap.size) (h1 : -9223372036854775808 ≤ k) (h2 : k ≤ 9223372036854775807) (hf : findL L k = some x) :
    Calls Try.prog 14 #[.pointer (some ⟨pb, 0, none⟩), .int .i64 k, .int .i64 0, .int .i64 most] w (MovePost B pb mb last (x.b0.take (mostR most x.b0.length), 0, setA (L.map Ln.ab) k 0 (x.b0.drop (mostR most x.b0.length))) own w) := by
  have H := Lib.hid h
  have HF := Lib.hid hf
  have hX := h.each x (findL_mem hf).1
  have d0 : w.cell? ⟨x.lb, 0, none⟩ = some (.slice x.a0 x.b0.length x.c0) := hX.blk.cell 0
  have HX := Lib.hid hX
  have HL := Lib.hid hX.l0
  have hcap := hX.r0.le
  have hcm : x.c0 ≤ 9223372036854775807 := by have := hX.r0.capmax; unfold maxLen at this; omega
  have HSRC := Lib.hid hX.r0.src
  have hnil : x.a0 = none ∨ ∃ g, x.a0 = some ⟨g, 0, none⟩ := hX.r0.forms
  have HNIL : Hid (x.a0 = none → x.b0.length = 0 ∧ x.c0 = 0) := fun e => by have h3 := hX.r0; rw [e] at h3; obtain ⟨q1, q2, _⟩ := h3.of_none; exact ⟨q1, q2⟩
  obtain ⟨m, hm⟩ : ∃ m, mostR most x.b0.length = m := ⟨_, rfl⟩
  have hmle : m ≤ x.b0.length := by rw [← hm]; exact mostR_le _ _
  rw [hm]
  have htl : (x.b0.take m).length = m := by rw [List.length_take]; omega
  have hdl : (x.b0.drop m).length = x.b0.length - m := List.length_drop
  have HTL := Lib.hid htl
  have HDL := Lib.hid hdl
  have HT1 : Hid (Src w 1 x.a0 m (x.b0.take m)) := by have := HSRC.out.take hmle; show Src _ _ _ _ _; simpa using this
  have hcase : (most < 1 ∧ m = x.b0.length) ∨ (¬ most < 1 ∧ (x.b0.length : Int) < most ∧ m = x.b0.length) ∨ (¬ most < 1 ∧ ¬ (x.b0.length : Int) < most ∧ most = (m : Int)) := by
    unfold mostR at hm
    by_cases q1 : most < 1
    · rw [if_pos (Or.inl q1)] at hm; exact Or.inl ⟨q1, hm.symm⟩
    · by_cases q2 : (x.b0.length : Int) < most
      · rw [if_pos (Or.inr q2)] at hm; exact Or.inr (Or.inl ⟨q1, q2, hm.symm⟩)
      · rw [if_neg (by omega)] at hm; exact Or.inr (Or.inr ⟨q1, q2, by omega⟩)
  -- the rest behind the two slices
  have REST : Hid (∀ w1 ro rc, Row w.heap.size w1 5 1 ro m rc (x.b0.take m) → Below w.heap.size w w1 → ∀ w2 qo qc, Row w1.heap.size w2 5 1 qo (x.b0.length - m) qc (x.b0.drop m) → Below w1.heap.size w1 w2 →
      w2.cell? ⟨x.lb, 0, none⟩ = some (.slice x.a0 x.b0.length x.c0) ∧ w2.frozen? ⟨x.lb, 0, none⟩ = false ∧ MovePost B pb mb last (x.b0.take m, 0, setA (L.map Ln.ab) k 0 (x.b0.drop m)) own w (.returned (.tuple #[.slice ro m rc, .int .i64 0])) (w2.setCell ⟨x.lb, 0, none⟩ (.slice qo (x.b0.length - m) qc))) := by
    intro w1 ro rc hr1 hb1 w2 qo qc hr2 hb2
    have hb : Below w.heap.size w w2 := hb1.trans (hb2.mono hb1.size)
    have hlt := HX.out.blk.lt
    have H1 : NetAt B w1 pb mb last L (mark own w.heap.size (0, 9)) := (h.relabel (mark_old _ _ _)).below hb1
    have hr2' : Row B w2 5 1 qo (x.b0.drop m).length qc (x.b0.drop m) := by rw [HDL.out]; exact hr2.base (Nat.le_trans hB hb1.size)
    obtain ⟨p1, p2⟩ := H1.put0 HF.out (Fr.of_below hb2) hr2' (HX.out.y0.drop m) (by rw [HDL.out]; have := HL.out; omega) (fun i hi => Or.inr (hr2.tag i (row_lt hr2 i hi) hi).1)
    rw [HDL.out] at p1 p2
    have hro : ∀ i, rowOf ro i → w.heap.size ≤ i ∧ i < w1.heap.size := fun i hi => ⟨(hr1.tag i (row_lt hr1 i hi) hi).1, row_lt hr1 i hi⟩
    refine ⟨(hb.cell (p := ⟨x.lb, 0, none⟩) hlt).trans d0, (HX.out.blk.below hb hlt).frozen 0, ro, rc, _, ?_, ?_, HX.out.y0.take m, ?_, ⟨_, set_ab _ _ _ _ _ _, p1⟩, ?_, ?_⟩
    · show _ = Ending.returned (.tuple #[.slice ro (x.b0.take m).length rc, .int .i64 0])
      rw [HTL.out]
    · show Row _ _ _ _ _ (x.b0.take m).length _ _
      rw [HTL.out]
      refine (hr1.fr (Fr.of_below (T := none0) hb2) (fun _ _ h => h)).fr ((Fr.refl (fun i => i = x.lb) w2).setCell (p := ⟨x.lb, 0, none⟩) (fun _ => rfl) _) ?_
      intro i hi e
      have := (hro i hi).1
      omega
    · intro i hi
      have := hro i hi
      rw [mark_old _ _ _ i this.2, mark_new _ _ _ this.1]
    · refine (Fr.of_below hb1).trans p2 ?_
      intro i hi hq
      unfold FP at hq ⊢
      rw [mark_old _ _ _ i hi] at hq
      exact hq
    · intro i hi
      have := hb1.size
      rw [mark_old _ _ _ i (by omega), mark_old _ _ _ i hi]
  clear h hf hX hm htl hdl
  have HMOST := Lib.hid hcase
  rcases hnil with ha | ⟨g, ha⟩
  · obtain ⟨hn0, hc0⟩ := HNIL.out ha
    have hm0 : m = 0 := by omega
    have HT2 : Hid (Src w 1 none (x.b0.length - m) (x.b0.drop m)) := by
      refine ⟨by rw [HDL.out, Nat.mul_one], fun j u hj => ?_⟩
      rw [List.getElem?_eq_none (by rw [HDL.out]; omega)] at hj; cases hj
    rw [ha, hn0, hc0] at d0
    rw [hn0, hm0] at HT2
    rw [ha, hm0] at HT1
    rw [hn0, ha, hc0, hm0] at REST
    rw [hm0]
    rw [hm0, hn0] at hcase
    clear hcap hcm hmle HSRC HNIL HTL HDL HMOST
    have HYT := Lib.hid (HX.out.y0.take 0)
    have HYD := Lib.hid (HX.out.y0.drop 0)
    rcases hcase with ⟨q1, _⟩ | ⟨q1, q2, _⟩ | ⟨q1, q2, q3⟩
    · go_enter Try.func14, Try.ntmps14
      go_wp2_with fail
      refine (at_ok B w pb mb last L own k 0 x H.out h1 h2 HF.out (Or.inl rfl)).mono ?_
      rintro e w1 ⟨rfl, rfl⟩
      go_wp2_with fail
      refine (clone_in w none 0 0 _ HT1.out HYT.out (by omega) (fun _ => ⟨rfl, rfl⟩)).mono ?_
      rintro e w1 ⟨ro, rc, rfl, hr1, hb1⟩
      have HR1 := Lib.hid hr1
      have HB1 := Lib.hid hb1
      have e1 : w1.cell? ⟨x.lb, 0, none⟩ = some (.slice none 0 0) := (hb1.cell (p := ⟨x.lb, 0, none⟩) HX.out.blk.lt).trans d0
      have HT3 := Lib.hid (HT2.out.below hb1 (fun _ _ h => h))
      clear hr1 hb1
      go_wp2_with fail
      refine (clone_in w1 none 0 0 _ HT3.out HYD.out (by omega) (fun _ => ⟨rfl, rfl⟩)).mono ?_
      rintro e w2 ⟨qo, qc, rfl, hr2, hb2⟩
      obtain ⟨e2, f2, hp⟩ := REST.out w1 ro rc HR1.out HB1.out w2 qo qc hr2 hb2
      have HP := Lib.hid hp
      clear hr2 hb2 hp e1
      go_wp2_with fail
      go_ret2
      exact HP.out
    · go_enter Try.func14, Try.ntmps14
      go_wp2_with fail
      refine (at_ok B w pb mb last L own k 0 x H.out h1 h2 HF.out (Or.inl rfl)).mono ?_
      rintro e w1 ⟨rfl, rfl⟩
      go_wp2_with fail
      refine (clone_in w none 0 0 _ HT1.out HYT.out (by omega) (fun _ => ⟨rfl, rfl⟩)).mono ?_
      rintro e w1 ⟨ro, rc, rfl, hr1, hb1⟩
      have HR1 := Lib.hid hr1
      have HB1 := Lib.hid hb1
      have e1 : w1.cell? ⟨x.lb, 0, none⟩ = some (.slice none 0 0) := (hb1.cell (p := ⟨x.lb, 0, none⟩) HX.out.blk.lt).trans d0
      have HT3 := Lib.hid (HT2.out.below hb1 (fun _ _ h => h))
      clear hr1 hb1
      go_wp2_with fail
      refine (clone_in w1 none 0 0 _ HT3.out HYD.out (by omega) (fun _ => ⟨rfl, rfl⟩)).mono ?_
      rintro e w2 ⟨qo, qc, rfl, hr2, hb2⟩
      obtain ⟨e2, f2, hp⟩ := REST.out w1 ro rc HR1.out HB1.out w2 qo qc hr2 hb2
      have HP := Lib.hid hp
      clear hr2 hb2 hp e1
      go_wp2_with fail
      go_ret2
      exact HP.out
    · omega
  · rw [ha] at HT1 HSRC d0
    obtain ⟨ad, had, had2⟩ : ∃ ad : Addr, (if x.c0 = m then some (⟨g, 0, none⟩ : Addr) else some ⟨g, m, none⟩) = some ad ∧ (m < x.b0.length → ad = ⟨g, m, none⟩) := by
      by_cases e : x.c0 = m
      · exact ⟨⟨g, 0, none⟩, by rw [if_pos e], fun h => by omega⟩
      · exact ⟨⟨g, m, none⟩, by rw [if_neg e], fun _ => rfl⟩
    have HT2 : Hid (Src w 1 (some ad) (x.b0.length - m) (x.b0.drop m)) := by
      have := HSRC.out.cut (k := m) (bo := some ad) (fun hlt b o e => by rw [had2 hlt]; injection e with e; injection e with e1 e2; subst e1; rw [← e2]; simp)
      show Src _ _ _ _ _
      simpa using this
    have hlen : x.b0.length ≤ 4194304 := HL.out
    have HYT := Lib.hid (HX.out.y0.take m)
    have HYD := Lib.hid (HX.out.y0.drop m)
    rw [ha] at REST
    have HAD2 := Lib.hid had2
    have HMLE := Lib.hid hmle
    have HLEN := Lib.hid hlen
    have hmc : m ≤ x.c0 := by omega
    have hlc : ¬ x.c0 < x.b0.length := by omega
    clear HSRC HNIL HTL HDL HMOST had2 HL ha hlen
    rcases hcase with ⟨q1, q3⟩ | ⟨q1, q2, q3⟩ | ⟨q1, q2, q3⟩
    · subst q3
      rw [Nat.sub_self] at HT2 REST
      go_enter Try.func14, Try.ntmps14
      go_wp2_with fail
      refine (at_ok B w pb mb last L own k 0 x H.out h1 h2 HF.out (Or.inl rfl)).mono ?_
      rintro e w1 ⟨rfl, rfl⟩
      go_wp2_with fail
      refine (clone_in w (some ⟨g, 0, none⟩) _ _ _ HT1.out HYT.out (by have := HLEN.out; omega) (fun h => by cases h)).mono ?_
      rintro e w1 ⟨ro, rc, rfl, hr1, hb1⟩
      have HR1 := Lib.hid hr1
      have HB1 := Lib.hid hb1
      have e1 : w1.cell? ⟨x.lb, 0, none⟩ = some (.slice (some ⟨g, 0, none⟩) x.b0.length x.c0) := (hb1.cell (p := ⟨x.lb, 0, none⟩) HX.out.blk.lt).trans d0
      have HT3 := Lib.hid (HT2.out.below hb1 (fun _ _ h => h))
      clear hr1 hb1
      go_wp2_with fail
      refine (clone_in w1 (some ad) _ _ _ HT3.out HYD.out (by have := HLEN.out; omega) (fun h => by cases h)).mono ?_
      rintro e w2 ⟨qo, qc, rfl, hr2, hb2⟩
      obtain ⟨e2, f2, hp⟩ := REST.out w1 ro rc HR1.out HB1.out w2 qo qc hr2 hb2
      have HP := Lib.hid hp
      clear hr2 hb2 hp e1
      go_wp2_with fail
      go_ret2
      exact HP.out
    · subst q3
      rw [Nat.sub_self] at HT2 REST
      go_enter Try.func14, Try.ntmps14
      go_wp2_with fail
      refine (at_ok B w pb mb last L own k 0 x H.out h1 h2 HF.out (Or.inl rfl)).mono ?_
      rintro e w1 ⟨rfl, rfl⟩
      go_wp2_with fail
      refine (clone_in w (some ⟨g, 0, none⟩) _ _ _ HT1.out HYT.out (by have := HLEN.out; omega) (fun h => by cases h)).mono ?_
      rintro e w1 ⟨ro, rc, rfl, hr1, hb1⟩
      have HR1 := Lib.hid hr1
      have HB1 := Lib.hid hb1
      have e1 : w1.cell? ⟨x.lb, 0, none⟩ = some (.slice (some ⟨g, 0, none⟩) x.b0.length x.c0) := (hb1.cell (p := ⟨x.lb, 0, none⟩) HX.out.blk.lt).trans d0
      have HT3 := Lib.hid (HT2.out.below hb1 (fun _ _ h => h))
      clear hr1 hb1
      go_wp2_with fail
      refine (clone_in w1 (some ad) _ _ _ HT3.out HYD.out (by have := HLEN.out; omega) (fun h => by cases h)).mono ?_
      rintro e w2 ⟨qo, qc, rfl, hr2, hb2⟩
      obtain ⟨e2, f2, hp⟩ := REST.out w1 ro rc HR1.out HB1.out w2 qo qc hr2 hb2
      have HP := Lib.hid hp
      clear hr2 hb2 hp e1
      go_wp2_with fail
      go_ret2
      exact HP.out
    · subst q3
      go_enter Try.func14, Try.ntmps14
      go_wp2_with fail
      refine (at_ok B w pb mb last L own k 0 x H.out h1 h2 HF.out (Or.inl rfl)).mono ?_
      rintro e w1 ⟨rfl, rfl⟩
      go_wp2_with fail
      refine (clone_in w (some ⟨g, 0, none⟩) _ _ _ HT1.out HYT.out (by have := HLEN.out; omega) (fun h => by cases h)).mono ?_
      rintro e w1 ⟨ro, rc, rfl, hr1, hb1⟩
      have HR1 := Lib.hid hr1
      have HB1 := Lib.hid hb1
      have e1 : w1.cell? ⟨x.lb, 0, none⟩ = some (.slice (some ⟨g, 0, none⟩) x.b0.length x.c0) := (hb1.cell (p := ⟨x.lb, 0, none⟩) HX.out.blk.lt).trans d0
      have HT3 := Lib.hid (HT2.out.below hb1 (fun _ _ h => h))
      clear hr1 hb1
      go_wp2_with fail
      refine (clone_in w1 (some ad) _ _ _ HT3.out HYD.out (by have := HLEN.out; omega) (fun h => by cases h)).mono ?_
      rintro e w2 ⟨qo, qc, rfl, hr2, hb2⟩
      obtain ⟨e2, f2, hp⟩ := REST.out w1 ro rc HR1.out HB1.out w2 qo qc hr2 hb2
      have HP := Lib.hid hp
      clear hr2 hb2 hp e1
      go_wp2_with fail
      go_ret2
      exact HP.out

set_option maxRecDepth 10000 in
set_option maxHeartbeats 2000000 in
theorem move_ok1 (B : Nat) (w : World) (pb mb : Nat) (last : Int) (L : List Ln) (own : Own) (k most : Int) (x : Ln) (h : NetAt B w pb mb last L own) (hB : B ≤ w.heap.size) (h1 : -9223372036854775808 ≤ k) (h2 : k ≤ 9223372036854775807) (hf : findL L k = some x) :
    Calls Try.prog 14 #[.pointer (some ⟨pb, 0, none⟩), .int .i64 k, .int .i64 1, .int .i64 most] w (MovePost B pb mb last (x.b1.take (mostR most x.b1.length), 0, setA (L.map Ln.ab) k 1 (x.b1.drop (mostR most x.b1.length))) own w) := by
  have H := Lib.hid h
  have HF := Lib.hid hf
  have hX := h.each x (findL_mem hf).1
  have d0 : w.cell? ⟨x.lb, 1, none⟩ = some (.slice x.a1 x.b1.length x.c1) := hX.blk.cell 1
  have HX := Lib.hid hX
  have HL := Lib.hid hX.l1
  have hcap := hX.r1.le
  have hcm : x.c1 ≤ 9223372036854775807 := by have := hX.r1.capmax; unfold maxLen at this; omega
  have HSRC := Lib.hid hX.r1.src
  have hnil : x.a1 = none ∨ ∃ g, x.a1 = some ⟨g, 0, none⟩ := hX.r1.forms
  have HNIL : Hid (x.a1 = none → x.b1.length = 0 ∧ x.c1 = 0) := fun e => by have h3 := hX.r1; rw [e] at h3; obtain ⟨q1, q2, _⟩ := h3.of_none; exact ⟨q1, q2⟩
  obtain ⟨m, hm⟩ : ∃ m, mostR most x.b1.length = m := ⟨_, rfl⟩
  have hmle : m ≤ x.b1.length := by rw [← hm]; exact mostR_le _ _
  rw [hm]
  have htl : (x.b1.take m).length = m := by rw [List.length_take]; omega
  have hdl : (x.b1.drop m).length = x.b1.length - m := List.length_drop
  have HTL := Lib.hid htl
  have HDL := Lib.hid hdl
  have HT1 : Hid (Src w 1 x.a1 m (x.b1.take m)) := by have := HSRC.out.take hmle; show Src _ _ _ _ _; simpa using this
  have hcase : (most < 1 ∧ m = x.b1.length) ∨ (¬ most < 1 ∧ (x.b1.length : Int) < most ∧ m = x.b1.length) ∨ (¬ most < 1 ∧ ¬ (x.b1.length : Int) < most ∧ most = (m : Int)) := by
    unfold mostR at hm
    by_cases q1 : most < 1
    · rw [if_pos (Or.inl q1)] at hm; exact Or.inl ⟨q1, hm.symm⟩
    · by_cases q2 : (x.b1.length : Int) < most
      · rw [if_pos (Or.inr q2)] at hm; exact Or.inr (Or.inl ⟨q1, q2, hm.symm⟩)
      · rw [if_neg (by omega)] at hm; exact Or.inr (Or.inr ⟨q1, q2, by omega⟩)
  -- the rest behind the two slices
  have REST : Hid (∀ w1 ro rc, Row w.heap.size w1 5 1 ro m rc (x.b1.take m) → Below w.heap.size w w1 → ∀ w2 qo qc, Row w1.heap.size w2 5 1 qo (x.b1.length - m) qc (x.b1.drop m) → Below w1.heap.size w1 w2 →
      w2.cell? ⟨x.lb, 1, none⟩ = some (.slice x.a1 x.b1.length x.c1) ∧ w2.frozen? ⟨x.lb, 1, none⟩ = false ∧ MovePost B pb mb last (x.b1.take m, 0, setA (L.map Ln.ab) k 1 (x.b1.drop m)) own w (.returned (.tuple #[.slice ro m rc, .int .i64 0])) (w2.setCell ⟨x.lb, 1, none⟩ (.slice qo (x.b1.length - m) qc))) := by
    intro w1 ro rc hr1 hb1 w2 qo qc hr2 hb2
    have hb : Below w.heap.size w w2 := hb1.trans (hb2.mono hb1.size)
    have hlt := HX.out.blk.lt
    have H1 : NetAt B w1 pb mb last L (mark own w.heap.size (0, 9)) := (h.relabel (mark_old _ _ _)).below hb1
    have hr2' : Row B w2 5 1 qo (x.b1.drop m).length qc (x.b1.drop m) := by rw [HDL.out]; exact hr2.base (Nat.le_trans hB hb1.size)
    obtain ⟨p1, p2⟩ := H1.put1 HF.out (Fr.of_below hb2) hr2' (HX.out.y1.drop m) (by rw [HDL.out]; have := HL.out; omega) (fun i hi => Or.inr (hr2.tag i (row_lt hr2 i hi) hi).1)
    rw [HDL.out] at p1 p2
    have hro : ∀ i, rowOf ro i → w.heap.size ≤ i ∧ i < w1.heap.size := fun i hi => ⟨(hr1.tag i (row_lt hr1 i hi) hi).1, row_lt hr1 i hi⟩
    refine ⟨(hb.cell (p := ⟨x.lb, 1, none⟩) hlt).trans d0, (HX.out.blk.below hb hlt).frozen 1, ro, rc, _, ?_, ?_, HX.out.y1.take m, ?_, ⟨_, set_ab _ _ _ _ _ _, p1⟩, ?_, ?_⟩
    · show _ = Ending.returned (.tuple #[.slice ro (x.b1.take m).length rc, .int .i64 0])
      rw [HTL.out]
    · show Row _ _ _ _ _ (x.b1.take m).length _ _
      rw [HTL.out]
      refine (hr1.fr (Fr.of_below (T := none0) hb2) (fun _ _ h => h)).fr ((Fr.refl (fun i => i = x.lb) w2).setCell (p := ⟨x.lb, 1, none⟩) (fun _ => rfl) _) ?_
      intro i hi e
      have := (hro i hi).1
      omega
    · intro i hi
      have := hro i hi
      rw [mark_old _ _ _ i this.2, mark_new _ _ _ this.1]
    · refine (Fr.of_below hb1).trans p2 ?_
      intro i hi hq
      unfold FP at hq ⊢
      rw [mark_old _ _ _ i hi] at hq
      exact hq
    · intro i hi
      have := hb1.size
      rw [mark_old _ _ _ i (by omega), mark_old _ _ _ i hi]
  clear h hf hX hm htl hdl
  have HMOST := Lib.hid hcase
  rcases hnil with ha | ⟨g, ha⟩
  · obtain ⟨hn0, hc0⟩ := HNIL.out ha
    have hm0 : m = 0 := by omega
    have HT2 : Hid (Src w 1 none (x.b1.length - m) (x.b1.drop m)) := by
      refine ⟨by rw [HDL.out, Nat.mul_one], fun j u hj => ?_⟩
      rw [List.getElem?_eq_none (by rw [HDL.out]; omega)] at hj; cases hj
    rw [ha, hn0, hc0] at d0
    rw [hn0, hm0] at HT2
    rw [ha, hm0] at HT1
    rw [hn0, ha, hc0, hm0] at REST
    rw [hm0]
    rw [hm0, hn0] at hcase
    clear hcap hcm hmle HSRC HNIL HTL HDL HMOST
    have HYT := Lib.hid (HX.out.y1.take 0)
    have HYD := Lib.hid (HX.out.y1.drop 0)
    rcases hcase with ⟨q1, _⟩ | ⟨q1, q2, _⟩ | ⟨q1, q2, q3⟩
    · go_enter Try.func14, Try.ntmps14
      go_wp2_with fail
      refine (at_ok B w pb mb last L own k 1 x H.out h1 h2 HF.out (Or.inr rfl)).mono ?_
      rintro e w1 ⟨rfl, rfl⟩
      go_wp2_with fail
      refine (clone_in w none 0 0 _ HT1.out HYT.out (by omega) (fun _ => ⟨rfl, rfl⟩)).mono ?_
      rintro e w1 ⟨ro, rc, rfl, hr1, hb1⟩
      have HR1 := Lib.hid hr1
      have HB1 := Lib.hid hb1
      have e1 : w1.cell? ⟨x.lb, 1, none⟩ = some (.slice none 0 0) := (hb1.cell (p := ⟨x.lb, 1, none⟩) HX.out.blk.lt).trans d0
      have HT3 := Lib.hid (HT2.out.below hb1 (fun _ _ h => h))
      clear hr1 hb1
      go_wp2_with fail
      refine (clone_in w1 none 0 0 _ HT3.out HYD.out (by omega) (fun _ => ⟨rfl, rfl⟩)).mono ?_
      rintro e w2 ⟨qo, qc, rfl, hr2, hb2⟩
      obtain ⟨e2, f2, hp⟩ := REST.out w1 ro rc HR1.out HB1.out w2 qo qc hr2 hb2
      have HP := Lib.hid hp
      clear hr2 hb2 hp e1
      go_wp2_with fail
      go_ret2
      exact HP.out
    · go_enter Try.func14, Try.ntmps14
      go_wp2_with fail
      refine (at_ok B w pb mb last L own k 1 x H.out h1 h2 HF.out (Or.inr rfl)).mono ?_
      rintro e w1 ⟨rfl, rfl⟩
      go_wp2_with fail
      refine (clone_in w none 0 0 _ HT1.out HYT.out (by omega) (fun _ => ⟨rfl, rfl⟩)).mono ?_
      rintro e w1 ⟨ro, rc, rfl, hr1, hb1⟩
      have HR1 := Lib.hid hr1
      have HB1 := Lib.hid hb1
      have e1 : w1.cell? ⟨x.lb, 1, none⟩ = some (.slice none 0 0) := (hb1.cell (p := ⟨x.lb, 1, none⟩) HX.out.blk.lt).trans d0
      have HT3 := Lib.hid (HT2.out.below hb1 (fun _ _ h => h))
      clear hr1 hb1
      go_wp2_with fail
      refine (clone_in w1 none 0 0 _ HT3.out HYD.out (by omega) (fun _ => ⟨rfl, rfl⟩)).mono ?_
      rintro e w2 ⟨qo, qc, rfl, hr2, hb2⟩
      obtain ⟨e2, f2, hp⟩ := REST.out w1 ro rc HR1.out HB1.out w2 qo qc hr2 hb2
      have HP := Lib.hid hp
      clear hr2 hb2 hp e1
      go_wp2_with fail
      go_ret2
      exact HP.out
    · omega
  · rw [ha] at HT1 HSRC d0
    obtain ⟨ad, had, had2⟩ : ∃ ad : Addr, (if x.c1 = m then some (⟨g, 0, none⟩ : Addr) else some ⟨g, m, none⟩) = some ad ∧ (m < x.b1.length → ad = ⟨g, m, none⟩) := by
      by_cases e : x.c1 = m
      · exact ⟨⟨g, 0, none⟩, by rw [if_pos e], fun h => by omega⟩
      · exact ⟨⟨g, m, none⟩, by rw [if_neg e], fun _ => rfl⟩
    have HT2 : Hid (Src w 1 (some ad) (x.b1.length - m) (x.b1.drop m)) := by
      have := HSRC.out.cut (k := m) (bo := some ad) (fun hlt b o e => by rw [had2 hlt]; injection e with e; injection e with e1 e2; subst e1; rw [← e2]; simp)
      show Src _ _ _ _ _
      simpa using this
    have hlen : x.b1.length ≤ 4194304 := HL.out
    have HYT := Lib.hid (HX.out.y1.take m)
    have HYD := Lib.hid (HX.out.y1.drop m)
    rw [ha] at REST
    have HAD2 := Lib.hid had2
    have HMLE := Lib.hid hmle
    have HLEN := Lib.hid hlen
    have hmc : m ≤ x.c1 := by omega
    have hlc : ¬ x.c1 < x.b1.length := by omega
    clear HSRC HNIL HTL HDL HMOST had2 HL ha hlen
    rcases hcase with ⟨q1, q3⟩ | ⟨q1, q2, q3⟩ | ⟨q1, q2, q3⟩
    · subst q3
      rw [Nat.sub_self] at HT2 REST
      go_enter Try.func14, Try.ntmps14
      go_wp2_with fail
      refine (at_ok B w pb mb last L own k 1 x H.out h1 h2 HF.out (Or.inr rfl)).mono ?_
      rintro e w1 ⟨rfl, rfl⟩
      go_wp2_with fail
      refine (clone_in w (some ⟨g, 0, none⟩) _ _ _ HT1.out HYT.out (by have := HLEN.out; omega) (fun h => by cases h)).mono ?_
      rintro e w1 ⟨ro, rc, rfl, hr1, hb1⟩
      have HR1 := Lib.hid hr1
      have HB1 := Lib.hid hb1
      have e1 : w1.cell? ⟨x.lb, 1, none⟩ = some (.slice (some ⟨g, 0, none⟩) x.b1.length x.c1) := (hb1.cell (p := ⟨x.lb, 1, none⟩) HX.out.blk.lt).trans d0
      have HT3 := Lib.hid (HT2.out.below hb1 (fun _ _ h => h))
      clear hr1 hb1
      go_wp2_with fail
      refine (clone_in w1 (some ad) _ _ _ HT3.out HYD.out (by have := HLEN.out; omega) (fun h => by cases h)).mono ?_
      rintro e w2 ⟨qo, qc, rfl, hr2, hb2⟩
      obtain ⟨e2, f2, hp⟩ := REST.out w1 ro rc HR1.out HB1.out w2 qo qc hr2 hb2
      have HP := Lib.hid hp
      clear hr2 hb2 hp e1
      go_wp2_with fail
      go_ret2
      exact HP.out
    · subst q3
      rw [Nat.sub_self] at HT2 REST
      go_enter Try.func14, Try.ntmps14
      go_wp2_with fail
      refine (at_ok B w pb mb last L own k 1 x H.out h1 h2 HF.out (Or.inr rfl)).mono ?_
      rintro e w1 ⟨rfl, rfl⟩
      go_wp2_with fail
      refine (clone_in w (some ⟨g, 0, none⟩) _ _ _ HT1.out HYT.out (by have := HLEN.out; omega) (fun h => by cases h)).mono ?_
      rintro e w1 ⟨ro, rc, rfl, hr1, hb1⟩
      have HR1 := Lib.hid hr1
      have HB1 := Lib.hid hb1
      have e1 : w1.cell? ⟨x.lb, 1, none⟩ = some (.slice (some ⟨g, 0, none⟩) x.b1.length x.c1) := (hb1.cell (p := ⟨x.lb, 1, none⟩) HX.out.blk.lt).trans d0
      have HT3 := Lib.hid (HT2.out.below hb1 (fun _ _ h => h))
      clear hr1 hb1
      go_wp2_with fail
      refine (clone_in w1 (some ad) _ _ _ HT3.out HYD.out (by have := HLEN.out; omega) (fun h => by cases h)).mono ?_
      rintro e w2 ⟨qo, qc, rfl, hr2, hb2⟩
      obtain ⟨e2, f2, hp⟩ := REST.out w1 ro rc HR1.out HB1.out w2 qo qc hr2 hb2
      have HP := Lib.hid hp
      clear hr2 hb2 hp e1
      go_wp2_with fail
      go_ret2
      exact HP.out
    · subst q3
      go_enter Try.func14, Try.ntmps14
      go_wp2_with fail
      refine (at_ok B w pb mb last L own k 1 x H.out h1 h2 HF.out (Or.inr rfl)).mono ?_
      rintro e w1 ⟨rfl, rfl⟩
      go_wp2_with fail
      refine (clone_in w (some ⟨g, 0, none⟩) _ _ _ HT1.out HYT.out (by have := HLEN.out; omega) (fun h => by cases h)).mono ?_
      rintro e w1 ⟨ro, rc, rfl, hr1, hb1⟩
      have HR1 := Lib.hid hr1
      have HB1 := Lib.hid hb1
      have e1 : w1.cell? ⟨x.lb, 1, none⟩ = some (.slice (some ⟨g, 0, none⟩) x.b1.length x.c1) := (hb1.cell (p := ⟨x.lb, 1, none⟩) HX.out.blk.lt).trans d0
      have HT3 := Lib.hid (HT2.out.below hb1 (fun _ _ h => h))
      clear hr1 hb1
      go_wp2_with fail
      refine (clone_in w1 (some ad) _ _ _ HT3.out HYD.out (by have := HLEN.out; omega) (fun h => by cases h)).mono ?_
      rintro e w2 ⟨qo, qc, rfl, hr2, hb2⟩
      obtain ⟨e2, f2, hp⟩ := REST.out w1 ro rc HR1.out HB1.out w2 qo qc hr2 hb2
      have HP := Lib.hid hp
      clear hr2 hb2 hp e1
      go_wp2_with fail
      go_ret2
      exact HP.out

theorem move_any (B : Nat) (w : World) (pb mb : Nat) (last : Int) (A : List Ab) (own : Own) (k way most : Int) (h : NetA B w pb mb last A own) (hB : B ≤ w.heap.size) (h1 : -9223372036854775808 ≤ k) (h2 : k ≤ 9223372036854775807) :
    Calls Try.prog 14 #[.pointer (some ⟨pb, 0, none⟩), .int .i64 k, .int .i64 way, .int .i64 most] w (MovePost B pb mb last (moveR A k way most) own w) := by
  obtain ⟨L, rfl, h⟩ := h
  have HS : Hid (∀ er : Int, MovePost B pb mb last ([], er, L.map Ln.ab) own w (.returned (.tuple #[.slice none 0 0, .int .i64 er])) w) := fun er => move_same ⟨L, rfl, h⟩
  cases hf : findL L k with
  | none =>
    rw [move_none hf]
    have H := Lib.hid h
    have HF := Lib.hid hf
    clear h hf
    go_enter Try.func14, Try.ntmps14
    go_wp2_with fail
    refine (at_none B w pb mb last L own k way H.out h1 h2 HF.out).mono ?_
    rintro e w1 ⟨rfl, rfl⟩
    go_wp2_with fail
    go_ret2
    exact HS.out 7
  | some x =>
    rw [move_some hf]
    by_cases h0 : way = 0
    · subst h0
      rw [if_pos rfl]
      exact move_ok0 B w pb mb last L own k most x h hB h1 h2 hf
    · rw [if_neg h0]
      by_cases h01 : way = 1
      · subst h01
        rw [if_pos rfl]
        exact move_ok1 B w pb mb last L own k most x h hB h1 h2 hf
      · rw [if_neg h01]
        have H := Lib.hid h
        have HF := Lib.hid hf
        have H0 := Lib.hid h0
        have H01 := Lib.hid h01
        clear h hf h0 h01
        go_enter Try.func14, Try.ntmps14
        go_wp2_with fail
        refine (at_bad B w pb mb last L own k way x H.out h1 h2 HF.out H0.out H01.out).mono ?_
        rintro e w1 ⟨rfl, rfl⟩
        go_wp2_with fail
        go_ret2
        exact HS.out 2
end Go.Proofs.Ytmgdbilmfialkaa
