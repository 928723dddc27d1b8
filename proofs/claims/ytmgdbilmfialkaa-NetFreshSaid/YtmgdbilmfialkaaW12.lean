/- The document's net in memory; contract of place, by a walk. -/
import Derived.Test.YtmgdbilmfialkaaW11
namespace Go.Proofs.Ytmgdbilmfialkaa
open Go.RowKit Go.WideShapes Go.Maps

def cells3 (x : Ln) : List Value := [.int .i64 x.k, .slice x.a0 x.b0.length x.c0, .slice x.a1 x.b1.length x.c1]
theorem cells3_len (x : Ln) : (cells3 x).length = 3 := rfl
def flat3 (M : List Ln) : List Value := M.flatMap cells3
theorem flat3_length (M : List Ln) : (flat3 M).length = M.length * 3 := flat_len cells3 3 cells3_len M
theorem flat3_at {M : List Ln} {i : Nat} {x : Ln} (h : M[i]? = some x) {j : Nat} (hj : j < 3) : (flat3 M)[i * 3 + j]? = (cells3 x)[j]? := flat_get cells3 3 cells3_len M i j x h hj
theorem flat3_one (M : List Ln) : ∀ u ∈ flat3 M, u.oneCell' = true := by
  intro v hv
  obtain ⟨x, _, hv⟩ := List.mem_flatMap.1 hv
  simp [cells3] at hv
  rcases hv with rfl | rfl | rfl <;> rfl
theorem row3_cells {B : Nat} {w : World} {g n cap : Nat} {M : List Ln} (h : Row B w 74 3 (some ⟨g, 0, none⟩) n cap (flat3 M)) {i : Nat} {x : Ln} (hi : M[i]? = some x) :
    w.cell? ⟨g, i * 3, none⟩ = some (.int .i64 x.k) ∧ w.cell? ⟨g, i * 3 + 1, none⟩ = some (.slice x.a0 x.b0.length x.c0) ∧ w.cell? ⟨g, i * 3 + 2, none⟩ = some (.slice x.a1 x.b1.length x.c1) := by
  have hl := h.len
  rw [flat3_length] at hl
  have hil : i < M.length := (List.getElem?_eq_some_iff.1 hi).1
  have hc : ∀ j, j < 3 → w.cell? ⟨g, i * 3 + j, none⟩ = (cells3 x)[j]? := fun j hj => (h.cell (by omega)).trans (flat3_at hi hj)
  exact ⟨hc 0 (by omega), hc 1 (by omega), hc 2 (by omega)⟩

/-- A link of the document's. -/
structure RlAt (B : Nat) (w : World) (own : Own) (x : Ln) : Prop where
  r0 : Row B w 5 1 x.a0 x.b0.length x.c0 x.b0
  r1 : Row B w 5 1 x.a1 x.b1.length x.c1 x.b1
  y0 : AllB x.b0
  y1 : AllB x.b1
  l0 : x.b0.length ≤ 4194304
  l1 : x.b1.length ≤ 4194304
  o0 : ∀ k, rowOf x.a0 k → own k = (x.k, 3)
  o1 : ∀ k, rowOf x.a1 k → own k = (x.k, 4)
/-- THE DOCUMENT's NET. -/
structure RefAt (B : Nat) (w : World) (rb : Nat) (last : Int) (M : List Ln) (lo : Option Addr) (lc : Nat) (own : Own) : Prop where
  low : B ≤ rb
  blk : Blk w rb 63 #[.int .i64 last, .slice lo M.length lc]
  row : Row B w 74 3 lo M.length lc (flat3 M)
  each : ∀ x ∈ M, RlAt B w own x
  asc : M.Pairwise fun x y => x.k < y.k
  rng : ∀ x ∈ M, 1 ≤ x.k ∧ x.k ≤ last
  len : M.length ≤ 64
  last0 : 0 ≤ last
  last1 : last ≤ 1000000
  orb : own rb = (0, 3)
  orow : ∀ k, rowOf lo k → own k = (0, 4)
/-- The document's blocks. -/
def FR (own : Own) : Nat → Prop := fun k => 3 ≤ (own k).2 ∧ (own k).2 ≤ 4
section
variable {B : Nat} {w w' : World} {rb : Nat} {last : Int} {M : List Ln} {lo : Option Addr} {lc : Nat} {own own' : Own} {x : Ln}
theorem RlAt.fr {T : Nat → Prop} (h : RlAt B w own x) (hf : Fr T w w') (hT : ∀ k, k < w.heap.size → T k → ¬ (own k = (x.k, 3) ∨ own k = (x.k, 4))) : RlAt B w' own x :=
  ⟨h.r0.fr hf (fun k hk ht => hT k (row_lt h.r0 k hk) ht (Or.inl (h.o0 k hk))), h.r1.fr hf (fun k hk ht => hT k (row_lt h.r1 k hk) ht (Or.inr (h.o1 k hk))), h.y0, h.y1, h.l0, h.l1, h.o0, h.o1⟩
theorem RlAt.relabel (h : RlAt B w own x) (ho : ∀ k, k < w.heap.size → own' k = own k) : RlAt B w own' x :=
  ⟨h.r0, h.r1, h.y0, h.y1, h.l0, h.l1, fun k hk => (ho k (row_lt h.r0 k hk)).trans (h.o0 k hk), fun k hk => (ho k (row_lt h.r1 k hk)).trans (h.o1 k hk)⟩
theorem RefAt.fr {T : Nat → Prop} (h : RefAt B w rb last M lo lc own) (hf : Fr T w w') (hT : ∀ k, k < w.heap.size → T k → ¬ FR own k) : RefAt B w' rb last M lo lc own := by
  have no : ∀ k a j, k < w.heap.size → T k → 3 ≤ j → j ≤ 4 → own k ≠ (a, j) := fun k a j hk ht h1 h2 e => hT k hk ht (by unfold FR; rw [e]; exact ⟨h1, h2⟩)
  exact ⟨h.low, h.blk.fr hf (fun ht => no _ _ _ h.blk.lt ht (by omega) (by omega) h.orb), h.row.fr hf (fun k hk ht => no _ _ _ (row_lt h.row k hk) ht (by omega) (by omega) (h.orow k hk)),
    fun x hx => (h.each x hx).fr hf (fun k hk ht hq => by rcases hq with e | e <;> exact no _ _ _ hk ht (by omega) (by omega) e), h.asc, h.rng, h.len, h.last0, h.last1, h.orb, h.orow⟩
theorem RefAt.below (h : RefAt B w rb last M lo lc own) (hf : Below w.heap.size w w') : RefAt B w' rb last M lo lc own := h.fr (Fr.of_below (T := none0) hf) (fun _ _ h => h.elim)
theorem RefAt.relabel (h : RefAt B w rb last M lo lc own) (ho : ∀ k, k < w.heap.size → own' k = own k) : RefAt B w rb last M lo lc own' :=
  ⟨h.low, h.blk, h.row, fun x hx => (h.each x hx).relabel ho, h.asc, h.rng, h.len, h.last0, h.last1, (ho _ h.blk.lt).trans h.orb, fun k hk => (ho k (row_lt h.row k hk)).trans (h.orow k hk)⟩
theorem RefAt.c0 (h : RefAt B w rb last M lo lc own) : w.cell? ⟨rb, 0, none⟩ = some (.int .i64 last) := h.blk.cell 0
theorem RefAt.c1 (h : RefAt B w rb last M lo lc own) : w.cell? ⟨rb, 1, none⟩ = some (.slice lo M.length lc) := h.blk.cell 1
end
/-- THE DOCUMENT's NET, of the links A. -/
def RefA (B : Nat) (w : World) (rb : Nat) (last : Int) (A : List Ab) (own : Own) : Prop := ∃ M lo lc, M.map Ln.ab = A ∧ RefAt B w rb last M lo lc own
def AftR (B rb : Nat) (last : Int) (A : List Ab) (own : Own) (w w' : World) : Prop := ∃ own', RefA B w' rb last A own' ∧ Fr (FR own) w w' ∧ ∀ i, i < w.heap.size → own' i = own i
section
variable {B : Nat} {w w' : World} {rb : Nat} {last : Int} {A : List Ab} {own own' : Own}
theorem RefA.fr {T : Nat → Prop} (h : RefA B w rb last A own) (hf : Fr T w w') (hT : ∀ k, k < w.heap.size → T k → ¬ FR own k) : RefA B w' rb last A own := by
  obtain ⟨M, lo, lc, h1, h2⟩ := h
  exact ⟨M, lo, lc, h1, h2.fr hf hT⟩
theorem RefA.below (h : RefA B w rb last A own) (hf : Below w.heap.size w w') : RefA B w' rb last A own := by
  obtain ⟨M, lo, lc, h1, h2⟩ := h
  exact ⟨M, lo, lc, h1, h2.below hf⟩
theorem RefA.relabel (h : RefA B w rb last A own) (ho : ∀ k, k < w.heap.size → own' k = own k) : RefA B w rb last A own' := by
  obtain ⟨M, lo, lc, h1, h2⟩ := h
  exact ⟨M, lo, lc, h1, h2.relabel ho⟩
theorem RefA.aft (h : RefA B w rb last A own) (hf : Below w.heap.size w w') : AftR B rb last A own w w' := ⟨own, h.below hf, Fr.of_below hf, fun _ _ => rfl⟩
end

/-- Where a link stands. -/
theorem find_idx {M : List Ln} {k : Int} {x : Ln} (h : findL M k = some x) : ∃ i, M[i]? = some x ∧ x.k = k ∧ M.findIdx? (fun y => decide (y.k = k)) = some i := by
  unfold findL at h
  obtain ⟨h1, l1, l2, h2, h3⟩ := List.find?_eq_some_iff_append.1 h
  refine ⟨l1.length, by rw [h2]; simp, by simpa using h1, ?_⟩
  rw [h2, List.findIdx?_append]
  have : l1.findIdx? (fun y => decide (y.k = k)) = none := by
    rw [List.findIdx?_eq_none_iff]
    intro y hy
    simpa using h3 y hy
  rw [this, List.findIdx?_cons, h1]
  simp
theorem find_none {M : List Ln} {k : Int} (h : findL M k = none) : M.findIdx? (fun y => decide (y.k = k)) = none := by
  unfold findL at h
  rw [List.findIdx?_eq_none_iff]
  intro y hy
  have := List.find?_eq_none.1 h y hy
  simpa using this
def placeV (M : List Ln) (k : Int) : Int := match M.findIdx? (fun y => decide (y.k = k)) with | some i => (i : Int) | none => -1
theorem place_none {M : List Ln} {k : Int} (h : findL M k = none) : placeV M k = -1 := by unfold placeV; rw [find_none h]

theorem place_any (B : Nat) (w : World) (rb : Nat) (last : Int) (M : List Ln) (lo : Option Addr) (lc : Nat) (own : Own) (k : Int) (h : RefAt B w rb last M lo lc own) :
    Calls Try.prog 38 #[.pointer (some ⟨rb, 0, none⟩), .int .i64 k] w fun e w' => e = .returned (.int .i64 (placeV M k)) ∧ w = w' := by
  obtain ⟨r, hr⟩ : ∃ r, placeV M k = r := ⟨_, rfl⟩
  rw [hr]
  have HR := Lib.hid hr
  have HROW := Lib.hid h.row
  have c1 := h.c1
  have hlen := h.len
  clear h hr
  go_enter Try.func38, Try.ntmps38
  go_wp2_with fail
  go_loop [4, 5] (fun _ s5 => ∃ i : Nat, i ≤ M.length ∧ s5 = .int .i64 i ∧ Hid (∀ j y, j < i → M[j]? = some y → ¬ y.k = k)) (fun _ s => M.length - (intOf s).toNat)
  case atStart => exact ⟨0, Nat.zero_le _, rfl, fun j y hj => absurd hj (Nat.not_lt_zero _)⟩
  case round =>
    obtain ⟨i, hi, rfl, hno⟩ := hrel
    by_cases hlt : i < M.length
    · obtain ⟨g, rfl⟩ := HROW.out.form (by omega)
      have hi2 : M[i]? = some M[i] := List.getElem?_eq_getElem hlt
      obtain ⟨d0, d1, d2⟩ := row3_cells HROW.out hi2
      have HI := Lib.hid hi2
      clear hi2 d1 d2
      generalize M[i] = y at *
      by_cases hq : y.k = k
      · have HH : Hid ((i : Int) = r) := by
          show _ = _
          rw [← HR.out]
          unfold placeV
          have : M.findIdx? (fun y => decide (y.k = k)) = some i := by
            rw [List.findIdx?_eq_some_iff_getElem]
            obtain ⟨hl, he⟩ := List.getElem?_eq_some_iff.1 HI.out
            refine ⟨hl, by rw [he]; simpa using hq, fun j hj => ?_⟩
            have := hno.out j _ hj (List.getElem?_eq_getElem (by omega))
            simpa using this
          rw [this]
        rw [hq] at d0
        clear hq hno
        go_wp2_with fail
        go_ret
        exact ⟨ret_int HH.out, rfl⟩
      · have HN : Hid (∀ j z, j < i + 1 → M[j]? = some z → ¬ z.k = k) := fun j z hj hz => by
          rcases Nat.lt_succ_iff_lt_or_eq.1 hj with h | h
          · exact hno.out j z h hz
          · subst h; rw [HI.out] at hz; injection hz with hz; subst hz; exact hq
        have e1 : (y.k == k) = false := by simpa using hq
        clear hq hno
        go_wp2_with fail
        go_round
        case rel => exact ⟨i + 1, by omega, by go_num, HN.out⟩
        case measure => simp [intOf]; omega
    · have HH : Hid ((-1 : Int) = r) := by
        show _ = _
        rw [← HR.out]
        unfold placeV
        have : M.findIdx? (fun y => decide (y.k = k)) = none := by
          rw [List.findIdx?_eq_none_iff]
          intro y hy
          obtain ⟨j, hj⟩ := List.mem_iff_getElem?.1 hy
          have := hno.out j y (by have := (List.getElem?_eq_some_iff.1 hj).1; omega) hj
          simpa using this
        rw [this]
      clear hno
      go_wp2_with fail
      go_ret
      exact ⟨ret_int HH.out, rfl⟩

/-- A link's cell, stored anew. -/
theorem flat3_set {M : List Ln} {k : Int} {x : Ln} {i : Nat} (hasc : M.Pairwise fun x y => x.k < y.k) (hi : M[i]? = some x) (hk : x.k = k) (j : Nat) (hj : j < 2) (ao : Option Addr) (c : Nat) (bs : List Value) :
    (flat3 M).set (i * 3 + 1 + j) (.slice ao bs.length c) = flat3 (setL M k j ao c bs) := by
  have hil : i < M.length := (List.getElem?_eq_some_iff.1 hi).1
  have hsl : (setL M k j ao c bs).length = M.length := by unfold setL; rw [List.length_map]
  apply List.ext_getElem?
  intro q
  by_cases hq : q < M.length * 3
  · obtain ⟨i', r, hr, rfl⟩ : ∃ i' r, r < 3 ∧ q = i' * 3 + r := ⟨q / 3, q % 3, Nat.mod_lt _ (by omega), by omega⟩
    have hi' : i' < M.length := by omega
    have hm : M[i']? = some M[i'] := List.getElem?_eq_getElem hi'
    have hs : (setL M k j ao c bs)[i']? = some (if M[i'].k = k then M[i'].set j ao c bs else M[i']) := by unfold setL; rw [List.getElem?_map, hm]; rfl
    rw [flat3_at hs hr, List.getElem?_set]
    have hone : M[i'].k = k ↔ i' = i := by
      constructor
      · intro e
        have hxi : M[i]? = some M[i] := List.getElem?_eq_getElem hil
        rw [hi] at hxi
        injection hxi with hxi
        have hpw := List.pairwise_iff_getElem.1 hasc
        rcases Nat.lt_trichotomy i' i with h | h | h
        · have := hpw i' i hi' hil h; rw [← hxi] at this; omega
        · exact h
        · have := hpw i i' hil hi' h; rw [← hxi] at this; omega
      · rintro rfl
        rw [hm] at hi
        injection hi with hi
        rw [hi]; exact hk
    by_cases e : i' = i
    · rw [if_pos (hone.2 e)]
      subst e
      by_cases e2 : r = 1 + j
      · subst e2
        rw [if_pos (by omega), if_pos (by rw [flat3_length]; omega)]
        unfold Ln.set
        rcases (show j = 0 ∨ j = 1 by omega) with rfl | rfl <;> rfl
      · rw [if_neg (by omega), flat3_at hm hr]
        unfold Ln.set
        rcases (show j = 0 ∨ j = 1 by omega) with rfl | rfl <;> rcases (show r = 0 ∨ r = 1 ∨ r = 2 by omega) with rfl | rfl | rfl <;> first | rfl | omega
    · rw [if_neg (fun h => e (hone.1 h)), if_neg (by omega), flat3_at hm hr]
  · rw [List.getElem?_eq_none (by rw [List.length_set, flat3_length]; omega), List.getElem?_eq_none (by rw [flat3_length, hsl]; omega)]

theorem RefAt.put0 {B : Nat} {w w1 : World} {rb : Nat} {last : Int} {M : List Ln} {g lc : Nat} {own : Own} {x : Ln} {k : Int} {i : Nat} {ao : Option Addr} {c : Nat} {bs : List Value} (h : RefAt B w rb last M (some ⟨g, 0, none⟩) lc own) (hi : M[i]? = some x) (hxk : x.k = k) (hf : Fr (rowOf x.a0) w w1)
    (hr : Row B w1 5 1 ao bs.length c bs) (hy : AllB bs) (hl : bs.length ≤ 4194304) (hlies : ∀ i, rowOf ao i → rowOf x.a0 i ∨ w.heap.size ≤ i) :
    RefAt B (w1.setCell ⟨g, i * 3 + 1 + 0, none⟩ (.slice ao bs.length c)) rb last (setL M k 0 ao c bs) (some ⟨g, 0, none⟩) lc (mark own w.heap.size (k, 3)) ∧ Fr (FR own) w (w1.setCell ⟨g, i * 3 + 1 + 0, none⟩ (.slice ao bs.length c)) := by
  have hxm : x ∈ M := List.mem_of_getElem? hi
  have hX := h.each x hxm
  have hkr := h.rng x hxm
  subst hxk
  have hset : Fr (fun i => i = g) w1 (w1.setCell ⟨g, i * 3 + 1 + 0, none⟩ (.slice ao bs.length c)) := (Fr.refl (fun i => i = g) w1).setCell (p := ⟨g, i * 3 + 1 + 0, none⟩) (fun _ => rfl) _
  have hall : Fr (fun i => rowOf x.a0 i ∨ i = g) w (w1.setCell ⟨g, i * 3 + 1 + 0, none⟩ (.slice ao bs.length c)) := (hf.mono (fun _ _ h => Or.inl h)).trans hset (fun _ _ h => Or.inr h)
  have hmk : ∀ i, i < w.heap.size → mark own w.heap.size (x.k, 3) i = own i := mark_old _ _ _
  have hgl : g < w.heap.size := h.row.lt
  have hgo : own g = (0, 4) := h.orow g ⟨_, rfl, rfl⟩
  have hng : ¬ rowOf x.a0 g := fun e => by have := hX.o0 g e; rw [hgo] at this; injection this with this _; omega
  have hrow1 : Row B w1 74 3 (some ⟨g, 0, none⟩) M.length lc (flat3 M) := h.row.fr hf (fun k hk => by obtain ⟨a, ha, rfl⟩ := hk; injection ha with ha; subst ha; exact hng)
  have hst := hrow1.stored (i * 3 + 1 + 0) (.slice ao bs.length c)
  rw [flat3_set h.asc hi rfl 0 (by omega)] at hst
  have hsl : (setL M x.k 0 ao c bs).length = M.length := by unfold setL; rw [List.length_map]
  have hnrb : ¬ (rowOf x.a0 rb ∨ rb = g) := by
    rintro (e | e)
    · exact row_ne hX.r0 h.blk (by decide) _ e rfl
    · exact row_ne h.row h.blk (by decide) g ⟨_, rfl, rfl⟩ e.symm
  refine ⟨⟨h.low, by rw [hsl]; exact h.blk.fr hall hnrb, by rw [hsl]; exact hst, ?_, ?_, ?_, by rw [hsl]; exact h.len, h.last0, h.last1, (hmk _ h.blk.lt).trans h.orb, fun k hk => (hmk k (row_lt h.row k hk)).trans (h.orow k hk)⟩, ?_⟩
  · intro y hy'
    unfold setL at hy'
    obtain ⟨x', hx', rfl⟩ := List.mem_map.1 hy'
    by_cases e : x'.k = x.k
    · rw [if_pos e]
      have : x' = x := key_one h.asc hx' hxm e
      subst this
      unfold Ln.set
      have hgr : Row B w1 5 1 ao bs.length c bs → ∀ i, rowOf ao i → ¬ i = g := fun _ i hi e => by
        subst e
        rcases hlies i hi with e | e
        · exact hng e
        · omega
      refine ⟨?_, ?_, ?_, ?_, ?_, ?_, ?_, ?_⟩
      · exact hr.fr hset (hgr hr)
      · exact hX.r1.fr hall (fun i hi ht => ht.elim (fun e => by have h1 := hX.o0 i e; rw [hX.o1 i hi] at h1; injection h1 with _ h2; cases h2) (fun e => by subst e; have h1 := hX.o1 i hi; rw [hgo] at h1; injection h1 with h1 _; omega))
      · exact hy
      · exact hX.y1
      · exact hl
      · exact hX.l1
      · exact fun i hi => (hlies i hi).elim (fun e => (hmk i (row_lt hX.r0 i e)).trans (hX.o0 i e)) (fun e => mark_new _ _ _ e)
      · exact fun i hi => (hmk i (row_lt hX.r1 i hi)).trans (hX.o1 i hi)
    · rw [if_neg e]
      have hX' := h.each x' hx'
      have hkr' := h.rng x' hx'
      refine (hX'.relabel hmk).fr hall ?_
      rintro i hi (hq | hq) hz
      · have h1 := hX.o0 i hq
        rw [hmk i hi] at hz
        rcases hz with hz | hz <;> (rw [h1] at hz; injection hz with hz _; exact e hz.symm)
      · subst hq
        rw [hmk _ hi] at hz
        rcases hz with hz | hz <;> (rw [hgo] at hz; injection hz with hz _; omega)
  · unfold setL
    rw [List.pairwise_map]
    refine h.asc.imp ?_
    intro a b hab
    have ha : (if a.k = x.k then a.set 0 ao c bs else a).k = a.k := by split <;> first | exact set_k _ _ _ _ _ | rfl
    have hb : (if b.k = x.k then b.set 0 ao c bs else b).k = b.k := by split <;> first | exact set_k _ _ _ _ _ | rfl
    rw [ha, hb]
    exact hab
  · intro y hy'
    unfold setL at hy'
    obtain ⟨x', hx', rfl⟩ := List.mem_map.1 hy'
    have ha : (if x'.k = x.k then x'.set 0 ao c bs else x').k = x'.k := by split <;> first | exact set_k _ _ _ _ _ | rfl
    rw [ha]
    exact h.rng x' hx'
  · refine hall.mono ?_
    rintro i hi (e | e)
    · show 3 ≤ (own i).2 ∧ (own i).2 ≤ 4
      rw [hX.o0 i e]; simp
    · subst e
      show 3 ≤ (own i).2 ∧ (own i).2 ≤ 4
      rw [hgo]; simp

theorem RefAt.put1 {B : Nat} {w w1 : World} {rb : Nat} {last : Int} {M : List Ln} {g lc : Nat} {own : Own} {x : Ln} {k : Int} {i : Nat} {ao : Option Addr} {c : Nat} {bs : List Value} (h : RefAt B w rb last M (some ⟨g, 0, none⟩) lc own) (hi : M[i]? = some x) (hxk : x.k = k) (hf : Fr (rowOf x.a1) w w1)
    (hr : Row B w1 5 1 ao bs.length c bs) (hy : AllB bs) (hl : bs.length ≤ 4194304) (hlies : ∀ i, rowOf ao i → rowOf x.a1 i ∨ w.heap.size ≤ i) :
    RefAt B (w1.setCell ⟨g, i * 3 + 1 + 1, none⟩ (.slice ao bs.length c)) rb last (setL M k 1 ao c bs) (some ⟨g, 0, none⟩) lc (mark own w.heap.size (k, 4)) ∧ Fr (FR own) w (w1.setCell ⟨g, i * 3 + 1 + 1, none⟩ (.slice ao bs.length c)) := by
  have hxm : x ∈ M := List.mem_of_getElem? hi
  have hX := h.each x hxm
  have hkr := h.rng x hxm
  subst hxk
  have hset : Fr (fun i => i = g) w1 (w1.setCell ⟨g, i * 3 + 1 + 1, none⟩ (.slice ao bs.length c)) := (Fr.refl (fun i => i = g) w1).setCell (p := ⟨g, i * 3 + 1 + 1, none⟩) (fun _ => rfl) _
  have hall : Fr (fun i => rowOf x.a1 i ∨ i = g) w (w1.setCell ⟨g, i * 3 + 1 + 1, none⟩ (.slice ao bs.length c)) := (hf.mono (fun _ _ h => Or.inl h)).trans hset (fun _ _ h => Or.inr h)
  have hmk : ∀ i, i < w.heap.size → mark own w.heap.size (x.k, 4) i = own i := mark_old _ _ _
  have hgl : g < w.heap.size := h.row.lt
  have hgo : own g = (0, 4) := h.orow g ⟨_, rfl, rfl⟩
  have hng : ¬ rowOf x.a1 g := fun e => by have := hX.o1 g e; rw [hgo] at this; injection this with this _; omega
  have hrow1 : Row B w1 74 3 (some ⟨g, 0, none⟩) M.length lc (flat3 M) := h.row.fr hf (fun k hk => by obtain ⟨a, ha, rfl⟩ := hk; injection ha with ha; subst ha; exact hng)
  have hst := hrow1.stored (i * 3 + 1 + 1) (.slice ao bs.length c)
  rw [flat3_set h.asc hi rfl 1 (by omega)] at hst
  have hsl : (setL M x.k 1 ao c bs).length = M.length := by unfold setL; rw [List.length_map]
  have hnrb : ¬ (rowOf x.a1 rb ∨ rb = g) := by
    rintro (e | e)
    · exact row_ne hX.r1 h.blk (by decide) _ e rfl
    · exact row_ne h.row h.blk (by decide) g ⟨_, rfl, rfl⟩ e.symm
  refine ⟨⟨h.low, by rw [hsl]; exact h.blk.fr hall hnrb, by rw [hsl]; exact hst, ?_, ?_, ?_, by rw [hsl]; exact h.len, h.last0, h.last1, (hmk _ h.blk.lt).trans h.orb, fun k hk => (hmk k (row_lt h.row k hk)).trans (h.orow k hk)⟩, ?_⟩
  · intro y hy'
    unfold setL at hy'
    obtain ⟨x', hx', rfl⟩ := List.mem_map.1 hy'
    by_cases e : x'.k = x.k
    · rw [if_pos e]
      have : x' = x := key_one h.asc hx' hxm e
      subst this
      unfold Ln.set
      have hgr : Row B w1 5 1 ao bs.length c bs → ∀ i, rowOf ao i → ¬ i = g := fun _ i hi e => by
        subst e
        rcases hlies i hi with e | e
        · exact hng e
        · omega
      refine ⟨?_, ?_, ?_, ?_, ?_, ?_, ?_, ?_⟩
      · exact hX.r0.fr hall (fun i hi ht => ht.elim (fun e => by have h1 := hX.o1 i e; rw [hX.o0 i hi] at h1; injection h1 with _ h2; cases h2) (fun e => by subst e; have h1 := hX.o0 i hi; rw [hgo] at h1; injection h1 with h1 _; omega))
      · exact hr.fr hset (hgr hr)
      · exact hX.y0
      · exact hy
      · exact hX.l0
      · exact hl
      · exact fun i hi => (hmk i (row_lt hX.r0 i hi)).trans (hX.o0 i hi)
      · exact fun i hi => (hlies i hi).elim (fun e => (hmk i (row_lt hX.r1 i e)).trans (hX.o1 i e)) (fun e => mark_new _ _ _ e)
    · rw [if_neg e]
      have hX' := h.each x' hx'
      have hkr' := h.rng x' hx'
      refine (hX'.relabel hmk).fr hall ?_
      rintro i hi (hq | hq) hz
      · have h1 := hX.o1 i hq
        rw [hmk i hi] at hz
        rcases hz with hz | hz <;> (rw [h1] at hz; injection hz with hz _; exact e hz.symm)
      · subst hq
        rw [hmk _ hi] at hz
        rcases hz with hz | hz <;> (rw [hgo] at hz; injection hz with hz _; omega)
  · unfold setL
    rw [List.pairwise_map]
    refine h.asc.imp ?_
    intro a b hab
    have ha : (if a.k = x.k then a.set 1 ao c bs else a).k = a.k := by split <;> first | exact set_k _ _ _ _ _ | rfl
    have hb : (if b.k = x.k then b.set 1 ao c bs else b).k = b.k := by split <;> first | exact set_k _ _ _ _ _ | rfl
    rw [ha, hb]
    exact hab
  · intro y hy'
    unfold setL at hy'
    obtain ⟨x', hx', rfl⟩ := List.mem_map.1 hy'
    have ha : (if x'.k = x.k then x'.set 1 ao c bs else x').k = x'.k := by split <;> first | exact set_k _ _ _ _ _ | rfl
    rw [ha]
    exact h.rng x' hx'
  · refine hall.mono ?_
    rintro i hi (e | e)
    · show 3 ≤ (own i).2 ∧ (own i).2 ≤ 4
      rw [hX.o1 i e]; simp
    · subst e
      show 3 ≤ (own i).2 ∧ (own i).2 ≤ 4
      rw [hgo]; simp
end Go.Proofs.Ytmgdbilmfialkaa
