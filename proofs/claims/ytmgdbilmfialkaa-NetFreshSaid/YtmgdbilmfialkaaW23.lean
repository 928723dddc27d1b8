/- Contract of Move, with the spare cells of what is answered, by a walk. -/
import Derived.Test.YtmgdbilmfialkaaW22
namespace Go.Proofs.Ytmgdbilmfialkaa
open Go.RowKit Go.WideShapes Go.Maps

def MovePostF (B pb mb : Nat) (last : Int) (r : List Value × Int × List Ab) (own : Own) (w : World) (e : Ending) (w' : World) : Prop :=
  ∃ ro rc own', e = .returned (.tuple #[.slice ro r.1.length rc, .int .i64 r.2.1]) ∧ Row w.heap.size w' 5 1 ro r.1.length rc r.1 ∧ AllB r.1 ∧ (∀ i, rowOf ro i → own' i = (0, 9)) ∧ NetA B w' pb mb last r.2.2 own' ∧ Fr (FP own) w w' ∧ (∀ i, i < w.heap.size → own' i = own i) ∧ Full w' ro

set_option maxRecDepth 10000 in
set_option maxHeartbeats 2000000 in
theorem moveF_ok0 (B : Nat) (w : World) (pb mb : Nat) (last : Int) (L : List Ln) (own : Own) (k most : Int) (x : Ln) (h : NetAt B w pb mb last L own) (hB : B ≤ w.heap.size) (h1 : -9223372036854775808 ≤ k) (h2 : k ≤ 9223372036854775807) (hf : findL L k = some x) :
    Calls Try.prog 14 #[.pointer (some ⟨pb, 0, none⟩), .int .i64 k, .int .i64 0, .int .i64 most] w (MovePostF B pb mb last (x.b0.take (mostR most x.b0.length), 0, setA (L.map Ln.ab) k 0 (x.b0.drop (mostR most x.b0.length))) own w) := by
  have H := Lib.hid h
  have HF := Lib.hid hf
  have hX := h.each x (findL_mem hf).1
  have d0 : w.cell? ⟨x.lb, 0, none⟩ = some (.slice x.a0 x.b0.length x.c0) := hX.blk.cell 0
  have HX := Lib.hid hX
  have HL := Lib.hid hX.l0
  have hcap := hX.r0.le
  have hcm : x.c0 ≤ 9223372036854775807 := by have := hX.r0.capmax; unfold maxLen at this; omega
  have HSRC := Lib.hid hX.r0.src
  have hnil : x.a0 = none ∨ ∃ g, x.a0 = some ⟨g, 0, none⟩ := hX.r0.forms
  have HNIL : Hid (x.a0 = none → x.b0.length = 0 ∧ x.c0 = 0) := fun e => by have h3 := hX.r0; rw [e] at h3; obtain ⟨q1, q2, _⟩ := h3.of_none; exact ⟨q1, q2⟩
  obtain ⟨m, hm⟩ : ∃ m, mostR most x.b0.length = m := ⟨_, rfl⟩
  have hmle : m ≤ x.b0.length := by rw [← hm]; exact mostR_le _ _
  rw [hm]
  have htl : (x.b0.take m).length = m := by rw [List.length_take]; omega
  have hdl : (x.b0.drop m).length = x.b0.length - m := List.length_drop
  have HTL := Lib.hid htl
  have HDL := Lib.hid hdl
  have HT1 : Hid (Src w 1 x.a0 m (x.b0.take m)) := by have := HSRC.out.take hmle; show Src _ _ _ _ _; simpa using this
  have hcase : (most < 1 ∧ m = x.b0.length) ∨ (¬ most < 1 ∧ (x.b0.length : Int) < most ∧ m = x.b0.length) ∨ (¬ most < 1 ∧ ¬ (x.b0.length : Int) < most ∧ most = (m : Int)) := by
    unfold mostR at hm
    by_cases q1 : most < 1
    · rw [if_pos (Or.inl q1)] at hm; exact Or.inl ⟨q1, hm.symm⟩
    · by_cases q2 : (x.b0.length : Int) < most
      · rw [if_pos (Or.inr q2)] at hm; exact Or.inr (Or.inl ⟨q1, q2, hm.symm⟩)
      · rw [if_neg (by omega)] at hm; exact Or.inr (Or.inr ⟨q1, q2, by omega⟩)
  -- the rest behind the two slices
  have REST : Hid (∀ w1 ro rc, Row w.heap.size w1 5 1 ro m rc (x.b0.take m) → Below w.heap.size w w1 → Full w1 ro → ∀ w2 qo qc, Row w1.heap.size w2 5 1 qo (x.b0.length - m) qc (x.b0.drop m) → Below w1.heap.size w1 w2 →
      w2.cell? ⟨x.lb, 0, none⟩ = some (.slice x.a0 x.b0.length x.c0) ∧ w2.frozen? ⟨x.lb, 0, none⟩ = false ∧ MovePostF B pb mb last (x.b0.take m, 0, setA (L.map Ln.ab) k 0 (x.b0.drop m)) own w (.returned (.tuple #[.slice ro m rc, .int .i64 0])) (w2.setCell ⟨x.lb, 0, none⟩ (.slice qo (x.b0.length - m) qc))) := by
    intro w1 ro rc hr1 hb1 hfu w2 qo qc hr2 hb2
    have hb : Below w.heap.size w w2 := hb1.trans (hb2.mono hb1.size)
    have hlt := HX.out.blk.lt
    have H1 : NetAt B w1 pb mb last L (mark own w.heap.size (0, 9)) := (h.relabel (mark_old _ _ _)).below hb1
    have hr2' : Row B w2 5 1 qo (x.b0.drop m).length qc (x.b0.drop m) := by rw [HDL.out]; exact hr2.base (Nat.le_trans hB hb1.size)
    obtain ⟨p1, p2⟩ := H1.put0 HF.out (Fr.of_below hb2) hr2' (HX.out.y0.drop m) (by rw [HDL.out]; have := HL.out; omega) (fun i hi => Or.inr (hr2.tag i (row_lt hr2 i hi) hi).1)
    rw [HDL.out] at p1 p2
    have hro : ∀ i, rowOf ro i → w.heap.size ≤ i ∧ i < w1.heap.size := fun i hi => ⟨(hr1.tag i (row_lt hr1 i hi) hi).1, row_lt hr1 i hi⟩
    refine ⟨(hb.cell (p := ⟨x.lb, 0, none⟩) hlt).trans d0, (HX.out.blk.below hb hlt).frozen 0, ro, rc, _, ?_, ?_, HX.out.y0.take m, ?_, ⟨_, set_ab _ _ _ _ _ _, p1⟩, ?_, ?_, ?_⟩
    · show _ = Ending.returned (.tuple #[.slice ro (x.b0.take m).length rc, .int .i64 0])
      rw [HTL.out]
    · show Row _ _ _ _ _ (x.b0.take m).length _ _
      rw [HTL.out]
      refine (hr1.fr (Fr.of_below (T := none0) hb2) (fun _ _ h => h)).fr ((Fr.refl (fun i => i = x.lb) w2).setCell (p := ⟨x.lb, 0, none⟩) (fun _ => rfl) _) ?_
      intro i hi e
      have := (hro i hi).1
      omega
    · intro i hi
      have := hro i hi
      rw [mark_old _ _ _ i this.2, mark_new _ _ _ this.1]
    · refine (Fr.of_below hb1).trans p2 ?_
      intro i hi hq
      unfold FP at hq ⊢
      rw [mark_old _ _ _ i hi] at hq
      exact hq
    · intro i hi
      have := hb1.size
      rw [mark_old _ _ _ i (by omega), mark_old _ _ _ i hi]
    · refine (hfu.fr (Fr.of_below (T := none0) hb2) (fun _ _ h => h)).fr ((Fr.refl (fun i => i = x.lb) w2).setCell (p := ⟨x.lb, 0, none⟩) (fun _ => rfl) _) ?_
      intro i hi e
      have := (hro i hi).1
      omega
  clear h hf hX hm htl hdl
  have HMOST := Lib.hid hcase
  rcases hnil with ha | ⟨g, ha⟩
  · obtain ⟨hn0, hc0⟩ := HNIL.out ha
    have hm0 : m = 0 := by omega
    have HT2 : Hid (Src w 1 none (x.b0.length - m) (x.b0.drop m)) := by
      refine ⟨by rw [HDL.out, Nat.mul_one], fun j u hj => ?_⟩
      rw [List.getElem?_eq_none (by rw [HDL.out]; omega)] at hj; cases hj
    rw [ha, hn0, hc0] at d0
    rw [hn0, hm0] at HT2
    rw [ha, hm0] at HT1
    rw [hn0, ha, hc0, hm0] at REST
    rw [hm0]
    rw [hm0, hn0] at hcase
    clear hcap hcm hmle HSRC HNIL HTL HDL HMOST
    have HYT := Lib.hid (HX.out.y0.take 0)
    have HYD := Lib.hid (HX.out.y0.drop 0)
    rcases hcase with ⟨q1, _⟩ | ⟨q1, q2, _⟩ | ⟨q1, q2, q3⟩
    · go_enter Try.func14, Try.ntmps14
      go_wp2_with fail
      refine (at_ok B w pb mb last L own k 0 x H.out h1 h2 HF.out (Or.inl rfl)).mono ?_
      rintro e w1 ⟨rfl, rfl⟩
      go_wp2_with fail
      refine (clone_full w none 0 0 _ HT1.out HYT.out (by omega) (fun _ => ⟨rfl, rfl⟩)).mono ?_
      rintro e w1 ⟨ro, rc, rfl, hr1, hb1, hfu1⟩
      have HFU := Lib.hid hfu1
      have HR1 := Lib.hid hr1
      have HB1 := Lib.hid hb1
      have e1 : w1.cell? ⟨x.lb, 0, none⟩ = some (.slice none 0 0) := (hb1.cell (p := ⟨x.lb, 0, none⟩) HX.out.blk.lt).trans d0
      have HT3 := Lib.hid (HT2.out.below hb1 (fun _ _ h => h))
      clear hr1 hb1 hfu1
      go_wp2_with fail
      refine (clone_in w1 none 0 0 _ HT3.out HYD.out (by omega) (fun _ => ⟨rfl, rfl⟩)).mono ?_
      rintro e w2 ⟨qo, qc, rfl, hr2, hb2⟩
      obtain ⟨e2, f2, hp⟩ := REST.out w1 ro rc HR1.out HB1.out HFU.out w2 qo qc hr2 hb2
      have HP := Lib.hid hp
      clear hr2 hb2 hp e1
      go_wp2_with fail
      go_ret2
      exact HP.out
    · go_enter Try.func14, Try.ntmps14
      go_wp2_with fail
      refine (at_ok B w pb mb last L own k 0 x H.out h1 h2 HF.out (Or.inl rfl)).mono ?_
      rintro e w1 ⟨rfl, rfl⟩
      go_wp2_with fail
      refine (clone_full w none 0 0 _ HT1.out HYT.out (by omega) (fun _ => ⟨rfl, rfl⟩)).mono ?_
      rintro e w1 ⟨ro, rc, rfl, hr1, hb1, hfu1⟩
      have HFU := Lib.hid hfu1
      have HR1 := Lib.hid hr1
      have HB1 := Lib.hid hb1
      have e1 : w1.cell? ⟨x.lb, 0, none⟩ = some (.slice none 0 0) := (hb1.cell (p := ⟨x.lb, 0, none⟩) HX.out.blk.lt).trans d0
      have HT3 := Lib.hid (HT2.out.below hb1 (fun _ _ h => h))
      clear hr1 hb1 hfu1
      go_wp2_with fail
      refine (clone_in w1 none 0 0 _ HT3.out HYD.out (by omega) (fun _ => ⟨rfl, rfl⟩)).mono ?_
      rintro e w2 ⟨qo, qc, rfl, hr2, hb2⟩
      obtain ⟨e2, f2, hp⟩ := REST.out w1 ro rc HR1.out HB1.out HFU.out w2 qo qc hr2 hb2
      have HP := Lib.hid hp
      clear hr2 hb2 hp e1
      go_wp2_with fail
      go_ret2
      exact HP.out
    · omega
  · rw [ha] at HT1 HSRC d0
    obtain ⟨ad, had, had2⟩ : ∃ ad : Addr, (if x.c0 = m then some (⟨g, 0, none⟩ : Addr) else some ⟨g, m, none⟩) = some ad ∧ (m < x.b0.length → ad = ⟨g, m, none⟩) := by
      by_cases e : x.c0 = m
      · exact ⟨⟨g, 0, none⟩, by rw [if_pos e], fun h => by omega⟩
      · exact ⟨⟨g, m, none⟩, by rw [if_neg e], fun _ => rfl⟩
    have HT2 : Hid (Src w 1 (some ad) (x.b0.length - m) (x.b0.drop m)) := by
      have := HSRC.out.cut (k := m) (bo := some ad) (fun hlt b o e => by rw [had2 hlt]; injection e with e; injection e with e1 e2; subst e1; rw [← e2]; simp)
      show Src _ _ _ _ _
      simpa using this
    have hlen : x.b0.length ≤ 4194304 := HL.out
    have HYT := Lib.hid (HX.out.y0.take m)
    have HYD := Lib.hid (HX.out.y0.drop m)
    rw [ha] at REST
    have HAD2 := Lib.hid had2
    have HMLE := Lib.hid hmle
    have HLEN := Lib.hid hlen
    have hmc : m ≤ x.c0 := by omega
    have hlc : ¬ x.c0 < x.b0.length := by omega
    clear HSRC HNIL HTL HDL HMOST had2 HL ha hlen
    rcases hcase with ⟨q1, q3⟩ | ⟨q1, q2, q3⟩ | ⟨q1, q2, q3⟩
    · subst q3
      rw [Nat.sub_self] at HT2 REST
      go_enter Try.func14, Try.ntmps14
      go_wp2_with fail
      refine (at_ok B w pb mb last L own k 0 x H.out h1 h2 HF.out (Or.inl rfl)).mono ?_
      rintro e w1 ⟨rfl, rfl⟩
      go_wp2_with fail
      refine (clone_full w (some ⟨g, 0, none⟩) _ _ _ HT1.out HYT.out (by have := HLEN.out; omega) (fun h => by cases h)).mono ?_
      rintro e w1 ⟨ro, rc, rfl, hr1, hb1, hfu1⟩
      have HFU := Lib.hid hfu1
      have HR1 := Lib.hid hr1
      have HB1 := Lib.hid hb1
      have e1 : w1.cell? ⟨x.lb, 0, none⟩ = some (.slice (some ⟨g, 0, none⟩) x.b0.length x.c0) := (hb1.cell (p := ⟨x.lb, 0, none⟩) HX.out.blk.lt).trans d0
      have HT3 := Lib.hid (HT2.out.below hb1 (fun _ _ h => h))
      clear hr1 hb1 hfu1
      go_wp2_with fail
      refine (clone_in w1 (some ad) _ _ _ HT3.out HYD.out (by have := HLEN.out; omega) (fun h => by cases h)).mono ?_
      rintro e w2 ⟨qo, qc, rfl, hr2, hb2⟩
      obtain ⟨e2, f2, hp⟩ := REST.out w1 ro rc HR1.out HB1.out HFU.out w2 qo qc hr2 hb2
      have HP := Lib.hid hp
      clear hr2 hb2 hp e1
      go_wp2_with fail
      go_ret2
      exact HP.out
    · subst q3
      rw [Nat.sub_self] at HT2 REST
      go_enter Try.func14, Try.ntmps14
      go_wp2_with fail
      refine (at_ok B w pb mb last L own k 0 x H.out h1 h2 HF.out (Or.inl rfl)).mono ?_
      rintro e w1 ⟨rfl, rfl⟩
      go_wp2_with fail
      refine (clone_full w (some ⟨g, 0, none⟩) _ _ _ HT1.out HYT.out (by have := HLEN.out; omega) (fun h => by cases h)).mono ?_
      rintro e w1 ⟨ro, rc, rfl, hr1, hb1, hfu1⟩
      have HFU := Lib.hid hfu1
      have HR1 := Lib.hid hr1
      have HB1 := Lib.hid hb1
      have e1 : w1.cell? ⟨x.lb, 0, none⟩ = some (.slice (some ⟨g, 0, none⟩) x.b0.length x.c0) := (hb1.cell (p := ⟨x.lb, 0, none⟩) HX.out.blk.lt).trans d0
      have HT3 := Lib.hid (HT2.out.below hb1 (fun _ _ h => h))
      clear hr1 hb1 hfu1
      go_wp2_with fail
      refine (clone_in w1 (some ad) _ _ _ HT3.out HYD.out (by have := HLEN.out; omega) (fun h => by cases h)).mono ?_
      rintro e w2 ⟨qo, qc, rfl, hr2, hb2⟩
      obtain ⟨e2, f2, hp⟩ := REST.out w1 ro rc HR1.out HB1.out HFU.out w2 qo qc hr2 hb2
      have HP := Lib.hid hp
      clear hr2 hb2 hp e1
      go_wp2_with fail
      go_ret2
      exact HP.out
    · subst q3
      go_enter Try.func14, Try.ntmps14
      go_wp2_with fail
      refine (at_ok B w pb mb last L own k 0 x H.out h1 h2 HF.out (Or.inl rfl)).mono ?_
      rintro e w1 ⟨rfl, rfl⟩
      go_wp2_with fail
      refine (clone_full w (some ⟨g, 0, none⟩) _ _ _ HT1.out HYT.out (by have := HLEN.out; omega) (fun h => by cases h)).mono ?_
      rintro e w1 ⟨ro, rc, rfl, hr1, hb1, hfu1⟩
      have HFU := Lib.hid hfu1
      have HR1 := Lib.hid hr1
      have HB1 := Lib.hid hb1
      have e1 : w1.cell? ⟨x.lb, 0, none⟩ = some (.slice (some ⟨g, 0, none⟩) x.b0.length x.c0) := (hb1.cell (p := ⟨x.lb, 0, none⟩) HX.out.blk.lt).trans d0
      have HT3 := Lib.hid (HT2.out.below hb1 (fun _ _ h => h))
      clear hr1 hb1 hfu1
      go_wp2_with fail
      refine (clone_in w1 (some ad) _ _ _ HT3.out HYD.out (by have := HLEN.out; omega) (fun h => by cases h)).mono ?_
      rintro e w2 ⟨qo, qc, rfl, hr2, hb2⟩
      obtain ⟨e2, f2, hp⟩ := REST.out w1 ro rc HR1.out HB1.out HFU.out w2 qo qc hr2 hb2
      have HP := Lib.hid hp
      clear hr2 hb2 hp e1
      go_wp2_with fail
      go_ret2
      exact HP.out

def MoveEF (B pb mb : Nat) (last : Int) (r : List Value × Int × List Ab) (own : Own) (w : World) (e : Ending) (w' : World) : Prop :=
  ∃ ro rc own', e = .returned (.tuple #[.slice ro r.1.length rc, .int .i64 r.2.1]) ∧ Row w.heap.size w' 5 1 ro r.1.length rc r.1 ∧ AllB r.1 ∧ Out own' ro ∧ Env B w' pb mb last r.2.2 own' ∧ Fr (FP own) w w' ∧ Below B w w' ∧ (∀ i, i < w.heap.size → own' i = own i) ∧ Full w' ro
theorem env_moveF (B : Nat) (w : World) (pb mb : Nat) (last : Int) (A : List Ab) (own : Own) (k most : Int) (x : Ab) (h : Env B w pb mb last A own) (hf : findA A k = some x) (h1 : -9223372036854775808 ≤ k) (h2 : k ≤ 9223372036854775807) :
    Calls Try.prog 14 #[.pointer (some ⟨pb, 0, none⟩), .int .i64 k, .int .i64 0, .int .i64 most] w (MoveEF B pb mb last (moveR A k 0 most) own w) := by
  obtain ⟨L, e, hL⟩ := h.net
  subst e
  rw [find_ab] at hf
  cases hf2 : findL L k with
  | none => rw [hf2] at hf; cases hf
  | some y =>
    refine (moveF_ok0 B w pb mb last L own k most y hL h.hB h1 h2 hf2).mono ?_
    rw [move_some hf2, if_pos rfl]
    rintro e w' ⟨ro, rc, own', he, hr, hy, ho, hn, hf, hq, hfu⟩
    obtain ⟨own2, e1, e2, e3, e4, e5⟩ := h.stp hn hf hq
    exact ⟨ro, rc, own2, he, hr, hy, fun k hk => (e5 k (row_lt hr k hk)).trans (ho k hk), e1, e2, e3, e4, hfu⟩
end Go.Proofs.Ytmgdbilmfialkaa
