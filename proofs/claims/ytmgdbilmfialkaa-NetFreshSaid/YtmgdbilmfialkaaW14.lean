/- Contract of the document's Move, by walks. -/
import Derived.Test.YtmgdbilmfialkaaW13
import Derived.Deep.RegionHeld3
import Derived.Deep.DrawnRows
namespace Go.Proofs.Ytmgdbilmfialkaa
open Go.RowKit Go.WideShapes Go.Maps
attribute [local go_sem ↓] Go.wp_at_zero Go.wp_at_succ

def MovePostR (B rb : Nat) (last : Int) (r : List Value × Int × List Ab) (own : Own) (w : World) (e : Ending) (w' : World) : Prop :=
  ∃ ro rc own', e = .returned (.tuple #[.slice ro r.1.length rc, .int .i64 r.2.1]) ∧ Row w.heap.size w' 5 1 ro r.1.length rc r.1 ∧ AllB r.1 ∧ (∀ i, rowOf ro i → own' i = (0, 9)) ∧ RefA B w' rb last r.2.2 own' ∧ Fr (FR own) w w' ∧ ∀ i, i < w.heap.size → own' i = own i
theorem rmove_same {B rb : Nat} {last : Int} {A : List Ab} {own : Own} {w : World} {er : Int} (h : RefA B w rb last A own) : MovePostR B rb last ([], er, A) own w (.returned (.tuple #[.slice none 0 0, .int .i64 er])) w :=
  ⟨none, 0, own, rfl, Row.nil _ _ _ _, AllB.nil, (fun i hi => by obtain ⟨a, ha, _⟩ := hi; cases ha), h, Fr.refl _ _, fun _ _ => rfl⟩
theorem MovePostR.drew {B rb : Nat} {last : Int} {r : List Value × Int × List Ab} {own : Own} {w : World} {e : Ending} {w' : World} (h : MovePostR B rb last r own w e w') : MovePostR B rb last r own w e w'.drew := by
  obtain ⟨ro, rc, own', h1, h2, h3, h4, h5, h6, h7⟩ := h
  exact ⟨ro, rc, own', h1, h2.drew, h3, h4, h5.below (Below.refl _ _).drew, h6.drew, h7⟩

set_option maxRecDepth 100000 in
set_option maxHeartbeats 8000000 in
theorem rmove_ok0 (B : Nat) (w : World) (rb : Nat) (last : Int) (M : List Ln) (g lc : Nat) (own : Own) (k most : Int) (i : Nat) (x : Ln) (h : RefAt B w rb last M (some ⟨g, 0, none⟩) lc own) (hB : B ≤ w.heap.size) (hi : M[i]? = some x) (hxk : x.k = k) (hpl : placeV M k = (i : Int)) :
    Calls Try.prog 31 #[.pointer (some ⟨rb, 0, none⟩), .int .i64 k, .int .i64 0, .int .i64 most] w (MovePostR B rb last (x.b0.take (mostR most x.b0.length), 0, setA (M.map Ln.ab) k 0 (x.b0.drop (mostR most x.b0.length))) own w) := by
  have H := Lib.hid h
  have HPL := Lib.hid hpl
  have hil : i < M.length := (List.getElem?_eq_some_iff.1 hi).1
  obtain ⟨_, d1, d2⟩ := row3_cells h.row hi
  have c1 := h.c1
  have hlen := h.len
  have i1 : (0 : Int) ≤ (i : Int) := by omega
  have i2 : (i : Int) < (M.length : Int) := by omega
  have i3 : ¬ (i : Int) < 0 := by omega
  have hX := h.each x (List.mem_of_getElem? hi)
  have HX := Lib.hid hX
  have HL := Lib.hid hX.l0
  have hcap := hX.r0.le
  have hcm : x.c0 ≤ 9223372036854775807 := by have := hX.r0.capmax; unfold maxLen at this; omega
  have HSRC := Lib.hid hX.r0.src
  have hnil : x.a0 = none ∨ ∃ g1, x.a0 = some ⟨g1, 0, none⟩ := hX.r0.forms
  have HNIL : Hid (x.a0 = none → x.b0.length = 0 ∧ x.c0 = 0) := fun e => by have h3 := hX.r0; rw [e] at h3; obtain ⟨q1, q2, _⟩ := h3.of_none; exact ⟨q1, q2⟩
  obtain ⟨i0, hi0, hz0, hz1, hz2⟩ := info_parts inf5
  have HI := Lib.hid hi
  have HK := Lib.hid hxk
  have hgl : g < w.heap.size := h.row.lt
  have hrl := h.blk.lt
  have hgr : ¬ g = rb := row_ne h.row h.blk (by decide) g ⟨_, rfl, rfl⟩
  have hgr2 : ¬ rb = g := fun e => hgr e.symm
  obtain ⟨m, hm⟩ : ∃ m, mostR most x.b0.length = m := ⟨_, rfl⟩
  have hmle : m ≤ x.b0.length := by rw [← hm]; exact mostR_le _ _
  rw [hm]
  have htl : (x.b0.take m).length = m := by rw [List.length_take]; omega
  have hdl : (x.b0.drop m).length = x.b0.length - m := List.length_drop
  have HTL := Lib.hid htl
  have HDL := Lib.hid hdl
  have HT1 : Hid (Src w 1 x.a0 m (x.b0.take m)) := by have := HSRC.out.take hmle; show Src _ _ _ _ _; simpa using this
  have hcase : (most < 1 ∧ m = x.b0.length) ∨ (¬ most < 1 ∧ (x.b0.length : Int) < most ∧ m = x.b0.length) ∨ (¬ most < 1 ∧ ¬ (x.b0.length : Int) < most ∧ most = (m : Int)) := by
    unfold mostR at hm
    by_cases q1 : most < 1
    · rw [if_pos (Or.inl q1)] at hm; exact Or.inl ⟨q1, hm.symm⟩
    · by_cases q2 : (x.b0.length : Int) < most
      · rw [if_pos (Or.inr q2)] at hm; exact Or.inr (Or.inl ⟨q1, q2, hm.symm⟩)
      · rw [if_neg (by omega)] at hm; exact Or.inr (Or.inr ⟨q1, q2, by omega⟩)
  -- the rest behind the two slices
  have REST : Hid (∀ w1 ro rc, Row w.heap.size w1 5 1 ro m rc (x.b0.take m) → Below w.heap.size w w1 → ∀ w2 qo qc, Row w1.heap.size w2 5 1 qo (x.b0.length - m) qc (x.b0.drop m) → Below w1.heap.size w1 w2 →
      w2.cell? ⟨g, i * 3 + 1, none⟩ = some (.slice x.a0 x.b0.length x.c0) ∧ w2.cell? ⟨rb, 1, none⟩ = some (.slice (some ⟨g, 0, none⟩) M.length lc) ∧ w2.frozen? ⟨g, i * 3 + 1, none⟩ = false ∧ MovePostR B rb last (x.b0.take m, 0, setA (M.map Ln.ab) k 0 (x.b0.drop m)) own w (.returned (.tuple #[.slice ro m rc, .int .i64 0])) (w2.setCell ⟨g, i * 3 + 1, none⟩ (.slice qo (x.b0.length - m) qc))) := by
    intro w1 ro rc hr1 hb1 w2 qo qc hr2 hb2
    have hb : Below w.heap.size w w2 := hb1.trans (hb2.mono hb1.size)
    have H1 : RefAt B w1 rb last M (some ⟨g, 0, none⟩) lc (mark own w.heap.size (0, 9)) := (h.relabel (mark_old _ _ _)).below hb1
    have hr2' : Row B w2 5 1 qo (x.b0.drop m).length qc (x.b0.drop m) := by rw [HDL.out]; exact hr2.base (Nat.le_trans hB hb1.size)
    obtain ⟨p1, p2⟩ := H1.put0 HI.out HK.out (Fr.of_below hb2) hr2' (HX.out.y0.drop m) (by rw [HDL.out]; have := HL.out; omega) (fun i hi => Or.inr (hr2.tag i (row_lt hr2 i hi) hi).1)
    rw [HDL.out] at p1 p2
    have hro : ∀ i, rowOf ro i → w.heap.size ≤ i ∧ i < w1.heap.size := fun i hi => ⟨(hr1.tag i (row_lt hr1 i hi) hi).1, row_lt hr1 i hi⟩
    refine ⟨(hb.cell (p := ⟨g, _, none⟩) hgl).trans d1, (hb.cell (p := ⟨rb, _, none⟩) hrl).trans c1, (h.row.fr (Fr.of_below (T := none0) hb) (fun _ _ h => h)).frozen _, ro, rc, _, ?_, ?_, HX.out.y0.take m, ?_, ⟨_, _, _, set_ab _ _ _ _ _ _, p1⟩, ?_, ?_⟩
    · show _ = Ending.returned (.tuple #[.slice ro (x.b0.take m).length rc, .int .i64 0])
      rw [HTL.out]
    · show Row _ _ _ _ _ (x.b0.take m).length _ _
      rw [HTL.out]
      refine (hr1.fr (Fr.of_below (T := none0) hb2) (fun _ _ h => h)).fr ((Fr.refl (fun i => i = g) w2).setCell (p := ⟨g, i * 3 + 1 + 0, none⟩) (fun _ => rfl) _) ?_
      intro i hi e
      have := (hro i hi).1
      omega
    · intro i hi
      have := hro i hi
      rw [mark_old _ _ _ i this.2, mark_new _ _ _ this.1]
    · refine (Fr.of_below hb1).trans p2 ?_
      intro i hi hq
      unfold FR at hq ⊢
      rw [mark_old _ _ _ i hi] at hq
      exact hq
    · intro i hi
      have := hb1.size
      rw [mark_old _ _ _ i (by omega), mark_old _ _ _ i hi]
  have HLEN : Hid (x.b0.length ≤ 4194304) := HL.out
  clear h hpl hi hxk hX hm htl hdl
  have HMOST := Lib.hid hcase
  rcases hnil with ha | ⟨g1, ha⟩
  · obtain ⟨hn0, hc0⟩ := HNIL.out ha
    have hm0 : m = 0 := by omega
    have HT2 : Hid (Src w 1 none (x.b0.length - m) (x.b0.drop m)) := by
      refine ⟨by rw [HDL.out, Nat.mul_one], fun j u hj => ?_⟩
      rw [List.getElem?_eq_none (by rw [HDL.out]; omega)] at hj; cases hj
    rw [ha, hn0, hc0] at d1
    rw [hn0, hm0] at HT2
    rw [ha, hm0] at HT1
    rw [hn0, ha, hc0, hm0] at REST
    rw [hm0]
    rw [hm0, hn0] at hcase
    have hx0 : x.b0 = [] := List.eq_nil_of_length_eq_zero hn0
    clear hcap hcm hmle HSRC HNIL HTL HDL HMOST
    rcases hcase with ⟨q1, _⟩ | ⟨q1, q2, _⟩ | ⟨q1, q2, q3⟩
    · obtain ⟨e2, c2, f2, hp⟩ := REST.out w none 0 (Row.nil _ _ _ _) (Below.refl _ _) w none 0 (by rw [hx0]; exact Row.nil _ _ _ _) (Below.refl _ _)
      have HP := Lib.hid hp.drew
      clear hp
      go_enter Try.func31, Try.ntmps31
      go_wp2_with fail
      refine (place_any B w rb last M _ lc own k H.out).mono ?_
      rw [HPL.out]
      rintro e w1 ⟨rfl, rfl⟩
      go_wp2_with fail
      go_region_held3 (fun w' => w'.cell? ⟨rb, 1, none⟩ = some (.slice (some ⟨g, 0, none⟩) M.length lc)) (go_keep) (fail)
      all_goals
        go_wp2_with fail
        go_ret2
        exact HP.out
    · obtain ⟨e2, c2, f2, hp⟩ := REST.out w none 0 (Row.nil _ _ _ _) (Below.refl _ _) w none 0 (by rw [hx0]; exact Row.nil _ _ _ _) (Below.refl _ _)
      have HP := Lib.hid hp.drew
      clear hp
      go_enter Try.func31, Try.ntmps31
      go_wp2_with fail
      refine (place_any B w rb last M _ lc own k H.out).mono ?_
      rw [HPL.out]
      rintro e w1 ⟨rfl, rfl⟩
      go_wp2_with fail
      go_region_held3 (fun w' => w'.cell? ⟨rb, 1, none⟩ = some (.slice (some ⟨g, 0, none⟩) M.length lc)) (go_keep) (fail)
      all_goals
        go_wp2_with fail
        go_ret2
        exact HP.out
    · omega
  · rw [ha] at HT1 HSRC d1
    obtain ⟨ad, had, had2⟩ : ∃ ad : Addr, (if x.c0 = m then some (⟨g1, 0, none⟩ : Addr) else some ⟨g1, m, none⟩) = some ad ∧ (m < x.b0.length → ad = ⟨g1, m, none⟩) := by
      by_cases e : x.c0 = m
      · exact ⟨⟨g1, 0, none⟩, by rw [if_pos e], fun h => by omega⟩
      · exact ⟨⟨g1, m, none⟩, by rw [if_neg e], fun _ => rfl⟩
    have HT2 : Hid (Src w 1 (some ad) (x.b0.length - m) (x.b0.drop m)) := by
      have := HSRC.out.cut (k := m) (bo := some ad) (fun hlt b o e => by rw [had2 hlt]; injection e with e; injection e with e1 e2; subst e1; rw [← e2]; simp)
      show Src _ _ _ _ _
      simpa using this
    have HYT := Lib.hid (HX.out.y0.take m)
    have HYD := Lib.hid (HX.out.y0.drop m)
    rw [ha] at REST
    have HAD2 := Lib.hid had2
    have HMLE := Lib.hid hmle
    have hmc : m ≤ x.c0 := by omega
    have hlc : ¬ x.c0 < x.b0.length := by omega
    clear HSRC HNIL HTL HDL HMOST had2 HL ha
    rcases hcase with ⟨q1, q3⟩ | ⟨q1, q2, q3⟩ | ⟨q1, q2, q3⟩
    · subst q3
      rw [Nat.sub_self] at HT2 REST
      go_enter Try.func31, Try.ntmps31
      go_wp2_with fail
      refine (place_any B w rb last M _ lc own k H.out).mono ?_
      rw [HPL.out]
      rintro e w1 ⟨rfl, rfl⟩
      go_wp2_with (at_builtin; refine wpList_append_src _ rfl (.tmp 45) (.tmp 48) 29 rfl w.heap.size 5 i0 _ 1 1 Try.underlying29 hi0 hz0 hz1 hz2 rfl (by decide) none 0 0 [] rfl (Row.nil _ _ _ _) (some ⟨g1, 0, none⟩) x.b0.length x.c0 (x.b0.take x.b0.length) rfl HT1.out HYT.out.one ?_ ?_ ?_ ?_)
      · have := HLEN.out; unfold maxLen; omega
      · have := HLEN.out; omega
      · omega
      intro ro rc w1 hr1 hf1 hl1
      have hr1' : Row w.heap.size w1 5 1 ro x.b0.length rc (x.b0.take x.b0.length) := by simpa using hr1
      have hb1 : Below w.heap.size w w1 := hf1.below (Nat.le_refl _) (fun k ⟨a, ha, _⟩ => by cases ha)
      have HR1 := Lib.hid hr1'
      have HB1 := Lib.hid hb1
      have c1' : w1.cell? ⟨rb, 1, none⟩ = some (.slice (some ⟨g, 0, none⟩) M.length lc) := (hb1.cell (p := ⟨rb, 1, none⟩) hrl).trans c1
      have d1' : w1.cell? ⟨g, i * 3 + 1, none⟩ = some (.slice (some ⟨g1, 0, none⟩) x.b0.length x.c0) := (hb1.cell (p := ⟨g, _, none⟩) hgl).trans d1
      have HT3 : Hid (Src w1.drew 1 (some ad) 0 (x.b0.drop x.b0.length)) := (HT2.out.below hb1 (fun _ _ h => h)).fr ((Fr.refl none0 w1).drew) (fun _ _ _ h => h)
      have hw1 : w1.heap.size ≤ w1.drew.heap.size := Nat.le_refl _
      clear hr1 hr1' hf1 hl1 hb1
      go_wp2_with fail
      go_region_held3 (fun w' => w'.cell? ⟨rb, 1, none⟩ = some (.slice (some ⟨g, 0, none⟩) M.length lc)) (go_keep) (
        (refine step_append_src _ (by rfl) (.tmp 56) (.tmp 59) 29 (by rfl) w1.heap.size 5 i0 _ 1 1 Try.underlying29 hi0 hz0 hz1 hz2 rfl (by decide) none 0 0 [] (by rfl) (Row.nil _ _ _ _) _ _ _ (x.b0.drop x.b0.length) (by rfl) ?_ HYD.out.one ?_ ?_ hw1 ?_
         · exact HT3.out
         · have := HLEN.out; unfold maxLen; omega
         · have := HLEN.out; omega
         intro qo qc w2 hr2 hf2 hl2
         have hb2 : Below w1.heap.size w1 w2 := (((Fr.refl (rowOf none) w1).drew).step hf2).below (Nat.le_refl _) (fun k ⟨a, ha, _⟩ => by cases ha)
         have hr2' : Row w1.heap.size w2 5 1 qo 0 qc (x.b0.drop x.b0.length) := by simpa using hr2
         obtain ⟨e2, c2, f2, hp⟩ := REST.out w1 ro rc HR1.out HB1.out w2 qo qc hr2' hb2
         have HP := Lib.hid hp
         clear hr2 hr2' hf2 hl2 hb2 hp))
      all_goals
        go_wp2_with fail
        go_ret2
        exact HP.out
    · subst q3
      rw [Nat.sub_self] at HT2 REST
      go_enter Try.func31, Try.ntmps31
      go_wp2_with fail
      refine (place_any B w rb last M _ lc own k H.out).mono ?_
      rw [HPL.out]
      rintro e w1 ⟨rfl, rfl⟩
      go_wp2_with (at_builtin; refine wpList_append_src _ rfl (.tmp 45) (.tmp 48) 29 rfl w.heap.size 5 i0 _ 1 1 Try.underlying29 hi0 hz0 hz1 hz2 rfl (by decide) none 0 0 [] rfl (Row.nil _ _ _ _) (some ⟨g1, 0, none⟩) x.b0.length x.c0 (x.b0.take x.b0.length) rfl HT1.out HYT.out.one ?_ ?_ ?_ ?_)
      · have := HLEN.out; unfold maxLen; omega
      · have := HLEN.out; omega
      · omega
      intro ro rc w1 hr1 hf1 hl1
      have hr1' : Row w.heap.size w1 5 1 ro x.b0.length rc (x.b0.take x.b0.length) := by simpa using hr1
      have hb1 : Below w.heap.size w w1 := hf1.below (Nat.le_refl _) (fun k ⟨a, ha, _⟩ => by cases ha)
      have HR1 := Lib.hid hr1'
      have HB1 := Lib.hid hb1
      have c1' : w1.cell? ⟨rb, 1, none⟩ = some (.slice (some ⟨g, 0, none⟩) M.length lc) := (hb1.cell (p := ⟨rb, 1, none⟩) hrl).trans c1
      have d1' : w1.cell? ⟨g, i * 3 + 1, none⟩ = some (.slice (some ⟨g1, 0, none⟩) x.b0.length x.c0) := (hb1.cell (p := ⟨g, _, none⟩) hgl).trans d1
      have HT3 : Hid (Src w1.drew 1 (some ad) 0 (x.b0.drop x.b0.length)) := (HT2.out.below hb1 (fun _ _ h => h)).fr ((Fr.refl none0 w1).drew) (fun _ _ _ h => h)
      have hw1 : w1.heap.size ≤ w1.drew.heap.size := Nat.le_refl _
      clear hr1 hr1' hf1 hl1 hb1
      go_wp2_with fail
      go_region_held3 (fun w' => w'.cell? ⟨rb, 1, none⟩ = some (.slice (some ⟨g, 0, none⟩) M.length lc)) (go_keep) (
        (refine step_append_src _ (by rfl) (.tmp 56) (.tmp 59) 29 (by rfl) w1.heap.size 5 i0 _ 1 1 Try.underlying29 hi0 hz0 hz1 hz2 rfl (by decide) none 0 0 [] (by rfl) (Row.nil _ _ _ _) _ _ _ (x.b0.drop x.b0.length) (by rfl) ?_ HYD.out.one ?_ ?_ hw1 ?_
         · exact HT3.out
         · have := HLEN.out; unfold maxLen; omega
         · have := HLEN.out; omega
         intro qo qc w2 hr2 hf2 hl2
         have hb2 : Below w1.heap.size w1 w2 := (((Fr.refl (rowOf none) w1).drew).step hf2).below (Nat.le_refl _) (fun k ⟨a, ha, _⟩ => by cases ha)
         have hr2' : Row w1.heap.size w2 5 1 qo 0 qc (x.b0.drop x.b0.length) := by simpa using hr2
         obtain ⟨e2, c2, f2, hp⟩ := REST.out w1 ro rc HR1.out HB1.out w2 qo qc hr2' hb2
         have HP := Lib.hid hp
         clear hr2 hr2' hf2 hl2 hb2 hp))
      all_goals
        go_wp2_with fail
        go_ret2
        exact HP.out
    · subst q3
      go_enter Try.func31, Try.ntmps31
      go_wp2_with fail
      refine (place_any B w rb last M _ lc own k H.out).mono ?_
      rw [HPL.out]
      rintro e w1 ⟨rfl, rfl⟩
      go_wp2_with (at_builtin; refine wpList_append_src _ rfl (.tmp 45) (.tmp 48) 29 rfl w.heap.size 5 i0 _ 1 1 Try.underlying29 hi0 hz0 hz1 hz2 rfl (by decide) none 0 0 [] rfl (Row.nil _ _ _ _) (some ⟨g1, 0, none⟩) m x.c0 (x.b0.take m) rfl HT1.out HYT.out.one ?_ ?_ ?_ ?_)
      · have := HLEN.out; unfold maxLen; omega
      · have := HLEN.out; omega
      · omega
      intro ro rc w1 hr1 hf1 hl1
      have hr1' : Row w.heap.size w1 5 1 ro m rc (x.b0.take m) := by simpa using hr1
      have hb1 : Below w.heap.size w w1 := hf1.below (Nat.le_refl _) (fun k ⟨a, ha, _⟩ => by cases ha)
      have HR1 := Lib.hid hr1'
      have HB1 := Lib.hid hb1
      have c1' : w1.cell? ⟨rb, 1, none⟩ = some (.slice (some ⟨g, 0, none⟩) M.length lc) := (hb1.cell (p := ⟨rb, 1, none⟩) hrl).trans c1
      have d1' : w1.cell? ⟨g, i * 3 + 1, none⟩ = some (.slice (some ⟨g1, 0, none⟩) x.b0.length x.c0) := (hb1.cell (p := ⟨g, _, none⟩) hgl).trans d1
      have HT3 : Hid (Src w1.drew 1 (some ad) (x.b0.length - m) (x.b0.drop m)) := (HT2.out.below hb1 (fun _ _ h => h)).fr ((Fr.refl none0 w1).drew) (fun _ _ _ h => h)
      have hw1 : w1.heap.size ≤ w1.drew.heap.size := Nat.le_refl _
      clear hr1 hr1' hf1 hl1 hb1
      go_wp2_with fail
      go_region_held3 (fun w' => w'.cell? ⟨rb, 1, none⟩ = some (.slice (some ⟨g, 0, none⟩) M.length lc)) (go_keep) (
        (refine step_append_src _ (by rfl) (.tmp 56) (.tmp 59) 29 (by rfl) w1.heap.size 5 i0 _ 1 1 Try.underlying29 hi0 hz0 hz1 hz2 rfl (by decide) none 0 0 [] (by rfl) (Row.nil _ _ _ _) _ _ _ (x.b0.drop m) (by rfl) ?_ HYD.out.one ?_ ?_ hw1 ?_
         · exact HT3.out
         · have := HLEN.out; unfold maxLen; omega
         · have := HLEN.out; omega
         intro qo qc w2 hr2 hf2 hl2
         have hb2 : Below w1.heap.size w1 w2 := (((Fr.refl (rowOf none) w1).drew).step hf2).below (Nat.le_refl _) (fun k ⟨a, ha, _⟩ => by cases ha)
         have hr2' : Row w1.heap.size w2 5 1 qo (x.b0.length - m) qc (x.b0.drop m) := by simpa using hr2
         obtain ⟨e2, c2, f2, hp⟩ := REST.out w1 ro rc HR1.out HB1.out w2 qo qc hr2' hb2
         have HP := Lib.hid hp
         clear hr2 hr2' hf2 hl2 hb2 hp))
      all_goals
        go_wp2_with fail
        go_ret2
        exact HP.out

set_option maxRecDepth 100000 in
set_option maxHeartbeats 8000000 in
theorem rmove_ok1 (B : Nat) (w : World) (rb : Nat) (last : Int) (M : List Ln) (g lc : Nat) (own : Own) (k most : Int) (i : Nat) (x : Ln) (h : RefAt B w rb last M (some ⟨g, 0, none⟩) lc own) (hB : B ≤ w.heap.size) (hi : M[i]? = some x) (hxk : x.k = k) (hpl : placeV M k = (i : Int)) :
    Calls Try.prog 31 #[.pointer (some ⟨rb, 0, none⟩), .int .i64 k, .int .i64 1, .int .i64 most] w (MovePostR B rb last (x.b1.take (mostR most x.b1.length), 0, setA (M.map Ln.ab) k 1 (x.b1.drop (mostR most x.b1.length))) own w) := by
  have H := Lib.hid h
  have HPL := Lib.hid hpl
  have hil : i < M.length := (List.getElem?_eq_some_iff.1 hi).1
  obtain ⟨_, d1, d2⟩ := row3_cells h.row hi
  have c1 := h.c1
  have hlen := h.len
  have i1 : (0 : Int) ≤ (i : Int) := by omega
  have i2 : (i : Int) < (M.length : Int) := by omega
  have i3 : ¬ (i : Int) < 0 := by omega
  have hX := h.each x (List.mem_of_getElem? hi)
  have HX := Lib.hid hX
  have HL := Lib.hid hX.l1
  have hcap := hX.r1.le
  have hcm : x.c1 ≤ 9223372036854775807 := by have := hX.r1.capmax; unfold maxLen at this; omega
  have HSRC := Lib.hid hX.r1.src
  have hnil : x.a1 = none ∨ ∃ g1, x.a1 = some ⟨g1, 0, none⟩ := hX.r1.forms
  have HNIL : Hid (x.a1 = none → x.b1.length = 0 ∧ x.c1 = 0) := fun e => by have h3 := hX.r1; rw [e] at h3; obtain ⟨q1, q2, _⟩ := h3.of_none; exact ⟨q1, q2⟩
  obtain ⟨i0, hi0, hz0, hz1, hz2⟩ := info_parts inf5
  have HI := Lib.hid hi
  have HK := Lib.hid hxk
  have hgl : g < w.heap.size := h.row.lt
  have hrl := h.blk.lt
  have hgr : ¬ g = rb := row_ne h.row h.blk (by decide) g ⟨_, rfl, rfl⟩
  have hgr2 : ¬ rb = g := fun e => hgr e.symm
  obtain ⟨m, hm⟩ : ∃ m, mostR most x.b1.length = m := ⟨_, rfl⟩
  have hmle : m ≤ x.b1.length := by rw [← hm]; exact mostR_le _ _
  rw [hm]
  have htl : (x.b1.take m).length = m := by rw [List.length_take]; omega
  have hdl : (x.b1.drop m).length = x.b1.length - m := List.length_drop
  have HTL := Lib.hid htl
  have HDL := Lib.hid hdl
  have HT1 : Hid (Src w 1 x.a1 m (x.b1.take m)) := by have := HSRC.out.take hmle; show Src _ _ _ _ _; simpa using this
  have hcase : (most < 1 ∧ m = x.b1.length) ∨ (¬ most < 1 ∧ (x.b1.length : Int) < most ∧ m = x.b1.length) ∨ (¬ most < 1 ∧ ¬ (x.b1.length : Int) < most ∧ most = (m : Int)) := by
    unfold mostR at hm
    by_cases q1 : most < 1
    · rw [if_pos (Or.inl q1)] at hm; exact Or.inl ⟨q1, hm.symm⟩
    · by_cases q2 : (x.b1.length : Int) < most
      · rw [if_pos (Or.inr q2)] at hm; exact Or.inr (Or.inl ⟨q1, q2, hm.symm⟩)
      · rw [if_neg (by omega)] at hm; exact Or.inr (Or.inr ⟨q1, q2, by omega⟩)
  -- the rest behind the two slices
  have REST : Hid (∀ w1 ro rc, Row w.heap.size w1 5 1 ro m rc (x.b1.take m) → Below w.heap.size w w1 → ∀ w2 qo qc, Row w1.heap.size w2 5 1 qo (x.b1.length - m) qc (x.b1.drop m) → Below w1.heap.size w1 w2 →
      w2.cell? ⟨g, i * 3 + 2, none⟩ = some (.slice x.a1 x.b1.length x.c1) ∧ w2.cell? ⟨rb, 1, none⟩ = some (.slice (some ⟨g, 0, none⟩) M.length lc) ∧ w2.frozen? ⟨g, i * 3 + 2, none⟩ = false ∧ MovePostR B rb last (x.b1.take m, 0, setA (M.map Ln.ab) k 1 (x.b1.drop m)) own w (.returned (.tuple #[.slice ro m rc, .int .i64 0])) (w2.setCell ⟨g, i * 3 + 2, none⟩ (.slice qo (x.b1.length - m) qc))) := by
    intro w1 ro rc hr1 hb1 w2 qo qc hr2 hb2
    have hb : Below w.heap.size w w2 := hb1.trans (hb2.mono hb1.size)
    have H1 : RefAt B w1 rb last M (some ⟨g, 0, none⟩) lc (mark own w.heap.size (0, 9)) := (h.relabel (mark_old _ _ _)).below hb1
    have hr2' : Row B w2 5 1 qo (x.b1.drop m).length qc (x.b1.drop m) := by rw [HDL.out]; exact hr2.base (Nat.le_trans hB hb1.size)
    obtain ⟨p1, p2⟩ := H1.put1 HI.out HK.out (Fr.of_below hb2) hr2' (HX.out.y1.drop m) (by rw [HDL.out]; have := HL.out; omega) (fun i hi => Or.inr (hr2.tag i (row_lt hr2 i hi) hi).1)
    rw [HDL.out] at p1 p2
    have hro : ∀ i, rowOf ro i → w.heap.size ≤ i ∧ i < w1.heap.size := fun i hi => ⟨(hr1.tag i (row_lt hr1 i hi) hi).1, row_lt hr1 i hi⟩
    refine ⟨(hb.cell (p := ⟨g, _, none⟩) hgl).trans d2, (hb.cell (p := ⟨rb, _, none⟩) hrl).trans c1, (h.row.fr (Fr.of_below (T := none0) hb) (fun _ _ h => h)).frozen _, ro, rc, _, ?_, ?_, HX.out.y1.take m, ?_, ⟨_, _, _, set_ab _ _ _ _ _ _, p1⟩, ?_, ?_⟩
    · show _ = Ending.returned (.tuple #[.slice ro (x.b1.take m).length rc, .int .i64 0])
      rw [HTL.out]
    · show Row _ _ _ _ _ (x.b1.take m).length _ _
      rw [HTL.out]
      refine (hr1.fr (Fr.of_below (T := none0) hb2) (fun _ _ h => h)).fr ((Fr.refl (fun i => i = g) w2).setCell (p := ⟨g, i * 3 + 1 + 1, none⟩) (fun _ => rfl) _) ?_
      intro i hi e
      have := (hro i hi).1
      omega
    · intro i hi
      have := hro i hi
      rw [mark_old _ _ _ i this.2, mark_new _ _ _ this.1]
    · refine (Fr.of_below hb1).trans p2 ?_
      intro i hi hq
      unfold FR at hq ⊢
      rw [mark_old _ _ _ i hi] at hq
      exact hq
    · intro i hi
      have := hb1.size
      rw [mark_old _ _ _ i (by omega), mark_old _ _ _ i hi]
  have HLEN : Hid (x.b1.length ≤ 4194304) := HL.out
  clear h hpl hi hxk hX hm htl hdl
  have HMOST := Lib.hid hcase
  rcases hnil with ha | ⟨g1, ha⟩
  · obtain ⟨hn0, hc0⟩ := HNIL.out ha
    have hm0 : m = 0 := by omega
    have HT2 : Hid (Src w 1 none (x.b1.length - m) (x.b1.drop m)) := by
      refine ⟨by rw [HDL.out, Nat.mul_one], fun j u hj => ?_⟩
      rw [List.getElem?_eq_none (by rw [HDL.out]; omega)] at hj; cases hj
    rw [ha, hn0, hc0] at d2
    rw [hn0, hm0] at HT2
    rw [ha, hm0] at HT1
    rw [hn0, ha, hc0, hm0] at REST
    rw [hm0]
    rw [hm0, hn0] at hcase
    have hx0 : x.b1 = [] := List.eq_nil_of_length_eq_zero hn0
    clear hcap hcm hmle HSRC HNIL HTL HDL HMOST
    rcases hcase with ⟨q1, _⟩ | ⟨q1, q2, _⟩ | ⟨q1, q2, q3⟩
    · obtain ⟨e2, c2, f2, hp⟩ := REST.out w none 0 (Row.nil _ _ _ _) (Below.refl _ _) w none 0 (by rw [hx0]; exact Row.nil _ _ _ _) (Below.refl _ _)
      have HP := Lib.hid hp.drew
      clear hp
      go_enter Try.func31, Try.ntmps31
      go_wp2_with fail
      refine (place_any B w rb last M _ lc own k H.out).mono ?_
      rw [HPL.out]
      rintro e w1 ⟨rfl, rfl⟩
      go_wp2_with fail
      go_region_held3 (fun w' => w'.cell? ⟨rb, 1, none⟩ = some (.slice (some ⟨g, 0, none⟩) M.length lc)) (go_keep) (fail)
      all_goals
        go_wp2_with fail
        go_ret2
        exact HP.out
    · obtain ⟨e2, c2, f2, hp⟩ := REST.out w none 0 (Row.nil _ _ _ _) (Below.refl _ _) w none 0 (by rw [hx0]; exact Row.nil _ _ _ _) (Below.refl _ _)
      have HP := Lib.hid hp.drew
      clear hp
      go_enter Try.func31, Try.ntmps31
      go_wp2_with fail
      refine (place_any B w rb last M _ lc own k H.out).mono ?_
      rw [HPL.out]
      rintro e w1 ⟨rfl, rfl⟩
      go_wp2_with fail
      go_region_held3 (fun w' => w'.cell? ⟨rb, 1, none⟩ = some (.slice (some ⟨g, 0, none⟩) M.length lc)) (go_keep) (fail)
      all_goals
        go_wp2_with fail
        go_ret2
        exact HP.out
    · omega
  · rw [ha] at HT1 HSRC d2
    obtain ⟨ad, had, had2⟩ : ∃ ad : Addr, (if x.c1 = m then some (⟨g1, 0, none⟩ : Addr) else some ⟨g1, m, none⟩) = some ad ∧ (m < x.b1.length → ad = ⟨g1, m, none⟩) := by
      by_cases e : x.c1 = m
      · exact ⟨⟨g1, 0, none⟩, by rw [if_pos e], fun h => by omega⟩
      · exact ⟨⟨g1, m, none⟩, by rw [if_neg e], fun _ => rfl⟩
    have HT2 : Hid (Src w 1 (some ad) (x.b1.length - m) (x.b1.drop m)) := by
      have := HSRC.out.cut (k := m) (bo := some ad) (fun hlt b o e => by rw [had2 hlt]; injection e with e; injection e with e1 e2; subst e1; rw [← e2]; simp)
      show Src _ _ _ _ _
      simpa using this
    have HYT := Lib.hid (HX.out.y1.take m)
    have HYD := Lib.hid (HX.out.y1.drop m)
    rw [ha] at REST
    have HAD2 := Lib.hid had2
    have HMLE := Lib.hid hmle
    have hmc : m ≤ x.c1 := by omega
    have hlc : ¬ x.c1 < x.b1.length := by omega
    clear HSRC HNIL HTL HDL HMOST had2 HL ha
    rcases hcase with ⟨q1, q3⟩ | ⟨q1, q2, q3⟩ | ⟨q1, q2, q3⟩
    · subst q3
      rw [Nat.sub_self] at HT2 REST
      go_enter Try.func31, Try.ntmps31
      go_wp2_with fail
      refine (place_any B w rb last M _ lc own k H.out).mono ?_
      rw [HPL.out]
      rintro e w1 ⟨rfl, rfl⟩
      go_wp2_with (at_builtin; refine wpList_append_src _ rfl (.tmp 45) (.tmp 48) 29 rfl w.heap.size 5 i0 _ 1 1 Try.underlying29 hi0 hz0 hz1 hz2 rfl (by decide) none 0 0 [] rfl (Row.nil _ _ _ _) (some ⟨g1, 0, none⟩) x.b1.length x.c1 (x.b1.take x.b1.length) rfl HT1.out HYT.out.one ?_ ?_ ?_ ?_)
      · have := HLEN.out; unfold maxLen; omega
      · have := HLEN.out; omega
      · omega
      intro ro rc w1 hr1 hf1 hl1
      have hr1' : Row w.heap.size w1 5 1 ro x.b1.length rc (x.b1.take x.b1.length) := by simpa using hr1
      have hb1 : Below w.heap.size w w1 := hf1.below (Nat.le_refl _) (fun k ⟨a, ha, _⟩ => by cases ha)
      have HR1 := Lib.hid hr1'
      have HB1 := Lib.hid hb1
      have c1' : w1.cell? ⟨rb, 1, none⟩ = some (.slice (some ⟨g, 0, none⟩) M.length lc) := (hb1.cell (p := ⟨rb, 1, none⟩) hrl).trans c1
      have d1' : w1.cell? ⟨g, i * 3 + 2, none⟩ = some (.slice (some ⟨g1, 0, none⟩) x.b1.length x.c1) := (hb1.cell (p := ⟨g, _, none⟩) hgl).trans d2
      have HT3 : Hid (Src w1.drew 1 (some ad) 0 (x.b1.drop x.b1.length)) := (HT2.out.below hb1 (fun _ _ h => h)).fr ((Fr.refl none0 w1).drew) (fun _ _ _ h => h)
      have hw1 : w1.heap.size ≤ w1.drew.heap.size := Nat.le_refl _
      clear hr1 hr1' hf1 hl1 hb1
      go_wp2_with fail
      go_region_held3 (fun w' => w'.cell? ⟨rb, 1, none⟩ = some (.slice (some ⟨g, 0, none⟩) M.length lc)) (go_keep) (
        (refine step_append_src _ (by rfl) (.tmp 56) (.tmp 59) 29 (by rfl) w1.heap.size 5 i0 _ 1 1 Try.underlying29 hi0 hz0 hz1 hz2 rfl (by decide) none 0 0 [] (by rfl) (Row.nil _ _ _ _) _ _ _ (x.b1.drop x.b1.length) (by rfl) ?_ HYD.out.one ?_ ?_ hw1 ?_
         · exact HT3.out
         · have := HLEN.out; unfold maxLen; omega
         · have := HLEN.out; omega
         intro qo qc w2 hr2 hf2 hl2
         have hb2 : Below w1.heap.size w1 w2 := (((Fr.refl (rowOf none) w1).drew).step hf2).below (Nat.le_refl _) (fun k ⟨a, ha, _⟩ => by cases ha)
         have hr2' : Row w1.heap.size w2 5 1 qo 0 qc (x.b1.drop x.b1.length) := by simpa using hr2
         obtain ⟨e2, c2, f2, hp⟩ := REST.out w1 ro rc HR1.out HB1.out w2 qo qc hr2' hb2
         have HP := Lib.hid hp
         clear hr2 hr2' hf2 hl2 hb2 hp))
      all_goals
        go_wp2_with fail
        go_ret2
        exact HP.out
    · subst q3
      rw [Nat.sub_self] at HT2 REST
      go_enter Try.func31, Try.ntmps31
      go_wp2_with fail
      refine (place_any B w rb last M _ lc own k H.out).mono ?_
      rw [HPL.out]
      rintro e w1 ⟨rfl, rfl⟩
      go_wp2_with (at_builtin; refine wpList_append_src _ rfl (.tmp 45) (.tmp 48) 29 rfl w.heap.size 5 i0 _ 1 1 Try.underlying29 hi0 hz0 hz1 hz2 rfl (by decide) none 0 0 [] rfl (Row.nil _ _ _ _) (some ⟨g1, 0, none⟩) x.b1.length x.c1 (x.b1.take x.b1.length) rfl HT1.out HYT.out.one ?_ ?_ ?_ ?_)
      · have := HLEN.out; unfold maxLen; omega
      · have := HLEN.out; omega
      · omega
      intro ro rc w1 hr1 hf1 hl1
      have hr1' : Row w.heap.size w1 5 1 ro x.b1.length rc (x.b1.take x.b1.length) := by simpa using hr1
      have hb1 : Below w.heap.size w w1 := hf1.below (Nat.le_refl _) (fun k ⟨a, ha, _⟩ => by cases ha)
      have HR1 := Lib.hid hr1'
      have HB1 := Lib.hid hb1
      have c1' : w1.cell? ⟨rb, 1, none⟩ = some (.slice (some ⟨g, 0, none⟩) M.length lc) := (hb1.cell (p := ⟨rb, 1, none⟩) hrl).trans c1
      have d1' : w1.cell? ⟨g, i * 3 + 2, none⟩ = some (.slice (some ⟨g1, 0, none⟩) x.b1.length x.c1) := (hb1.cell (p := ⟨g, _, none⟩) hgl).trans d2
      have HT3 : Hid (Src w1.drew 1 (some ad) 0 (x.b1.drop x.b1.length)) := (HT2.out.below hb1 (fun _ _ h => h)).fr ((Fr.refl none0 w1).drew) (fun _ _ _ h => h)
      have hw1 : w1.heap.size ≤ w1.drew.heap.size := Nat.le_refl _
      clear hr1 hr1' hf1 hl1 hb1
      go_wp2_with fail
      go_region_held3 (fun w' => w'.cell? ⟨rb, 1, none⟩ = some (.slice (some ⟨g, 0, none⟩) M.length lc)) (go_keep) (
        (refine step_append_src _ (by rfl) (.tmp 56) (.tmp 59) 29 (by rfl) w1.heap.size 5 i0 _ 1 1 Try.underlying29 hi0 hz0 hz1 hz2 rfl (by decide) none 0 0 [] (by rfl) (Row.nil _ _ _ _) _ _ _ (x.b1.drop x.b1.length) (by rfl) ?_ HYD.out.one ?_ ?_ hw1 ?_
         · exact HT3.out
         · have := HLEN.out; unfold maxLen; omega
         · have := HLEN.out; omega
         intro qo qc w2 hr2 hf2 hl2
         have hb2 : Below w1.heap.size w1 w2 := (((Fr.refl (rowOf none) w1).drew).step hf2).below (Nat.le_refl _) (fun k ⟨a, ha, _⟩ => by cases ha)
         have hr2' : Row w1.heap.size w2 5 1 qo 0 qc (x.b1.drop x.b1.length) := by simpa using hr2
         obtain ⟨e2, c2, f2, hp⟩ := REST.out w1 ro rc HR1.out HB1.out w2 qo qc hr2' hb2
         have HP := Lib.hid hp
         clear hr2 hr2' hf2 hl2 hb2 hp))
      all_goals
        go_wp2_with fail
        go_ret2
        exact HP.out
    · subst q3
      go_enter Try.func31, Try.ntmps31
      go_wp2_with fail
      refine (place_any B w rb last M _ lc own k H.out).mono ?_
      rw [HPL.out]
      rintro e w1 ⟨rfl, rfl⟩
      go_wp2_with (at_builtin; refine wpList_append_src _ rfl (.tmp 45) (.tmp 48) 29 rfl w.heap.size 5 i0 _ 1 1 Try.underlying29 hi0 hz0 hz1 hz2 rfl (by decide) none 0 0 [] rfl (Row.nil _ _ _ _) (some ⟨g1, 0, none⟩) m x.c1 (x.b1.take m) rfl HT1.out HYT.out.one ?_ ?_ ?_ ?_)
      · have := HLEN.out; unfold maxLen; omega
      · have := HLEN.out; omega
      · omega
      intro ro rc w1 hr1 hf1 hl1
      have hr1' : Row w.heap.size w1 5 1 ro m rc (x.b1.take m) := by simpa using hr1
      have hb1 : Below w.heap.size w w1 := hf1.below (Nat.le_refl _) (fun k ⟨a, ha, _⟩ => by cases ha)
      have HR1 := Lib.hid hr1'
      have HB1 := Lib.hid hb1
      have c1' : w1.cell? ⟨rb, 1, none⟩ = some (.slice (some ⟨g, 0, none⟩) M.length lc) := (hb1.cell (p := ⟨rb, 1, none⟩) hrl).trans c1
      have d1' : w1.cell? ⟨g, i * 3 + 2, none⟩ = some (.slice (some ⟨g1, 0, none⟩) x.b1.length x.c1) := (hb1.cell (p := ⟨g, _, none⟩) hgl).trans d2
      have HT3 : Hid (Src w1.drew 1 (some ad) (x.b1.length - m) (x.b1.drop m)) := (HT2.out.below hb1 (fun _ _ h => h)).fr ((Fr.refl none0 w1).drew) (fun _ _ _ h => h)
      have hw1 : w1.heap.size ≤ w1.drew.heap.size := Nat.le_refl _
      clear hr1 hr1' hf1 hl1 hb1
      go_wp2_with fail
      go_region_held3 (fun w' => w'.cell? ⟨rb, 1, none⟩ = some (.slice (some ⟨g, 0, none⟩) M.length lc)) (go_keep) (
        (refine step_append_src _ (by rfl) (.tmp 56) (.tmp 59) 29 (by rfl) w1.heap.size 5 i0 _ 1 1 Try.underlying29 hi0 hz0 hz1 hz2 rfl (by decide) none 0 0 [] (by rfl) (Row.nil _ _ _ _) _ _ _ (x.b1.drop m) (by rfl) ?_ HYD.out.one ?_ ?_ hw1 ?_
         · exact HT3.out
         · have := HLEN.out; unfold maxLen; omega
         · have := HLEN.out; omega
         intro qo qc w2 hr2 hf2 hl2
         have hb2 : Below w1.heap.size w1 w2 := (((Fr.refl (rowOf none) w1).drew).step hf2).below (Nat.le_refl _) (fun k ⟨a, ha, _⟩ => by cases ha)
         have hr2' : Row w1.heap.size w2 5 1 qo (x.b1.length - m) qc (x.b1.drop m) := by simpa using hr2
         obtain ⟨e2, c2, f2, hp⟩ := REST.out w1 ro rc HR1.out HB1.out w2 qo qc hr2' hb2
         have HP := Lib.hid hp
         clear hr2 hr2' hf2 hl2 hb2 hp))
      all_goals
        go_wp2_with fail
        go_ret2
        exact HP.out

theorem rmove_any (B : Nat) (w : World) (rb : Nat) (last : Int) (A : List Ab) (own : Own) (k way most : Int) (h : RefA B w rb last A own) (hB : B ≤ w.heap.size) :
    Calls Try.prog 31 #[.pointer (some ⟨rb, 0, none⟩), .int .i64 k, .int .i64 way, .int .i64 most] w (MovePostR B rb last (moveR A k way most) own w) := by
  have HS : Hid (∀ er : Int, MovePostR B rb last ([], er, A) own w (.returned (.tuple #[.slice none 0 0, .int .i64 er])) w) := fun er => rmove_same h
  obtain ⟨M, lo, lc, rfl, h⟩ := h
  have H := Lib.hid h
  cases hf : findL M k with
  | none =>
    rw [move_none hf]
    have HP := Lib.hid (place_none hf)
    clear h hf
    go_enter Try.func31, Try.ntmps31
    go_wp2_with fail
    refine (place_any B w rb last M lo lc own k H.out).mono ?_
    rw [HP.out]
    rintro e w1 ⟨rfl, rfl⟩
    go_wp2_with fail
    go_ret2
    exact HS.out 7
  | some x =>
    rw [move_some hf]
    obtain ⟨i, hi, hxk, hidx⟩ := find_idx hf
    have hpl := place_some hidx
    have hil : i < M.length := (List.getElem?_eq_some_iff.1 hi).1
    obtain ⟨g, rfl⟩ := h.row.form (by omega)
    by_cases h0 : way = 0
    · subst h0
      rw [if_pos rfl]
      exact rmove_ok0 B w rb last M g lc own k most i x h hB hi hxk hpl
    · rw [if_neg h0]
      by_cases h01 : way = 1
      · subst h01
        rw [if_pos rfl]
        exact rmove_ok1 B w rb last M g lc own k most i x h hB hi hxk hpl
      · rw [if_neg h01]
        have e0 : (way != 0) = true := by simpa using h0
        have e1 : (way != 1) = true := by simpa using h01
        have i3 : ¬ (i : Int) < 0 := by omega
        have HPL := Lib.hid hpl
        clear h hf hi hxk hidx hpl h0 h01
        go_enter Try.func31, Try.ntmps31
        go_wp2_with fail
        refine (place_any B w rb last M _ lc own k H.out).mono ?_
        rw [HPL.out]
        rintro e w1 ⟨rfl, rfl⟩
        go_wp2_with fail
        go_ret2
        exact HS.out 2
end Go.Proofs.Ytmgdbilmfialkaa
