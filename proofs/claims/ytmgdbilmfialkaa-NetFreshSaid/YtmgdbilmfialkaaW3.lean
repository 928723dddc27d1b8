/- What a call leaves of a net; contracts of Waits and Send, by walks. -/
import Derived.Test.YtmgdbilmfialkaaW2
namespace Go.Proofs.Ytmgdbilmfialkaa
open Go.RowKit Go.WideShapes Go.Maps

theorem row_ne {B : Nat} {w : World} {ao : Option Addr} {n c x : Nat} {e t : TypeId} {K : Nat} {cs : Array Value} {xs : List Value} (h : Row B w e K ao n c xs) (hx : Blk w x t cs) (h1 : t ≠ e) : ∀ k, rowOf ao k → ¬ k = x := by
  rintro k hk rfl
  obtain ⟨_, o, ho, ht⟩ := h.tag k hx.lt hk
  unfold Blk at hx
  rw [hx] at ho
  injection ho with ho
  subst ho
  injection ht with ht
  exact h1 ht
theorem row_ne_dict {B : Nat} {w : World} {ao : Option Addr} {n c b : Nat} {e : TypeId} {K : Nat} {xs : List Value} {P : Program} {kt : TypeId} {q : IntKind} {M : List (Int × Value)} (h : Row B w e K ao n c xs) (hx : DictAt P kt q w b M) : ∀ k, rowOf ao k → ¬ k = b := by
  rintro k hk rfl
  obtain ⟨_, o, ho, ht⟩ := h.tag k hx.lt hk
  obtain ⟨es, ck, he⟩ := hx.isMap
  rw [he] at ho
  injection ho with ho
  subst ho
  cases ht
/-- The program's blocks. -/
def FP (own : Own) : Nat → Prop := fun k => (own k).2 ≤ 2
/-- A NET, of the links A. -/
def NetA (B : Nat) (w : World) (pb mb : Nat) (last : Int) (A : List Ab) (own : Own) : Prop := ∃ L, L.map Ln.ab = A ∧ NetAt B w pb mb last L own
/-- What a call leaves. -/
def Aft (B pb mb : Nat) (last : Int) (A : List Ab) (own : Own) (w w' : World) : Prop := ∃ own', NetA B w' pb mb last A own' ∧ Fr (FP own) w w' ∧ ∀ i, i < w.heap.size → own' i = own i
theorem NetA.fr {T : Nat → Prop} {B : Nat} {w w' : World} {pb mb : Nat} {last : Int} {A : List Ab} {own : Own} (h : NetA B w pb mb last A own) (hf : Fr T w w') (hT : ∀ k, k < w.heap.size → T k → 2 < (own k).2) : NetA B w' pb mb last A own := by
  obtain ⟨L, h1, h2⟩ := h
  exact ⟨L, h1, h2.fr hf hT⟩
theorem NetA.below {B : Nat} {w w' : World} {pb mb : Nat} {last : Int} {A : List Ab} {own : Own} (h : NetA B w pb mb last A own) (hf : Below w.heap.size w w') : NetA B w' pb mb last A own := by
  obtain ⟨L, h1, h2⟩ := h
  exact ⟨L, h1, h2.below hf⟩
theorem NetA.relabel {B : Nat} {w : World} {pb mb : Nat} {last : Int} {A : List Ab} {own own' : Own} (h : NetA B w pb mb last A own) (ho : ∀ k, k < w.heap.size → own' k = own k) : NetA B w pb mb last A own' := by
  obtain ⟨L, h1, h2⟩ := h
  exact ⟨L, h1, h2.relabel ho⟩
theorem NetA.aft {B : Nat} {w w' : World} {pb mb : Nat} {last : Int} {A : List Ab} {own : Own} (h : NetA B w pb mb last A own) (hf : Below w.heap.size w w') : Aft B pb mb last A own w w' := ⟨own, h.below hf, Fr.of_below hf, fun _ _ => rfl⟩
theorem NetAt.frB {B : Nat} {w w' : World} {pb mb : Nat} {last : Int} {L : List Ln} {own : Own} (_ : NetAt B w pb mb last L own) (hf : Fr (FP own) w w') (hB : B ≤ w.heap.size) (ho : ∀ k, k < B → 2 < (own k).2) : Below B w w' :=
  ⟨hf.os, hf.tape, hf.output, hf.size, fun k hk => hf.block k (Nat.lt_of_lt_of_le hk hB) (fun h => by have := ho k hk; unfold FP at h; omega)⟩

def Ln.set (x : Ln) (j : Nat) (ao : Option Addr) (c : Nat) (bs : List Value) : Ln := if j = 0 then { x with a0 := ao, c0 := c, b0 := bs } else { x with a1 := ao, c1 := c, b1 := bs }
def setL (L : List Ln) (k : Int) (j : Nat) (ao : Option Addr) (c : Nat) (bs : List Value) : List Ln := L.map fun x => if x.k = k then x.set j ao c bs else x
theorem set_kv (L : List Ln) (k : Int) (j : Nat) (ao : Option Addr) (c : Nat) (bs : List Value) : (setL L k j ao c bs).map Ln.kv = L.map Ln.kv := by
  unfold setL
  rw [List.map_map]
  congr 1
  funext x
  simp only [Function.comp]
  split
  · unfold Ln.set Ln.kv; split <;> rfl
  · rfl
theorem set_ab (L : List Ln) (k : Int) (j : Nat) (ao : Option Addr) (c : Nat) (bs : List Value) : (setL L k j ao c bs).map Ln.ab = setA (L.map Ln.ab) k j bs := by
  unfold setL setA
  rw [List.map_map, List.map_map]
  congr 1
  funext x
  simp only [Function.comp]
  by_cases h : x.k = k
  · rw [if_pos h, if_pos (show x.ab.k = k from h)]
    unfold Ln.set Ln.ab Ab.set
    split <;> rfl
  · rw [if_neg h, if_neg (show ¬ x.ab.k = k from h)]
theorem set_k (x : Ln) (j : Nat) (ao : Option Addr) (c : Nat) (bs : List Value) : (x.set j ao c bs).k = x.k := by unfold Ln.set; split <;> rfl
theorem key_one {L : List Ln} (h : L.Pairwise fun x y => x.k < y.k) {x y : Ln} (hx : x ∈ L) (hy : y ∈ L) (e : x.k = y.k) : x = y := by
  obtain ⟨i, hi⟩ := List.mem_iff_getElem?.1 hx
  obtain ⟨j, hj⟩ := List.mem_iff_getElem?.1 hy
  obtain ⟨hil, hie⟩ := List.getElem?_eq_some_iff.1 hi
  obtain ⟨hjl, hje⟩ := List.getElem?_eq_some_iff.1 hj
  have hpw := List.pairwise_iff_getElem.1 h
  rcases Nat.lt_trichotomy i j with h | h | h
  · have := hpw i j hil hjl h; rw [hie, hje] at this; omega
  · subst h; rw [hie] at hje; exact hje
  · have := hpw j i hjl hil h; rw [hie, hje] at this; omega
/-- The blocks, anew marked: the new ones are a link's. -/
def mark (own : Own) (n : Nat) (m : Int × Nat) : Own := fun i => if i < n then own i else m
theorem mark_old (own : Own) (n : Nat) (m : Int × Nat) : ∀ i, i < n → mark own n m i = own i := fun i h => by unfold mark; rw [if_pos h]
theorem mark_new (own : Own) (n : Nat) (m : Int × Nat) {i : Nat} (h : n ≤ i) : mark own n m i = m := by unfold mark; rw [if_neg (by omega)]

/-- Stream 0 of a link is stored anew. -/
theorem NetAt.put0 {B : Nat} {w w1 : World} {pb mb : Nat} {last : Int} {L : List Ln} {own : Own} {x : Ln} {k : Int} {ao : Option Addr} {c : Nat} {bs : List Value} (h : NetAt B w pb mb last L own) (hx : findL L k = some x) (hf : Fr (rowOf x.a0) w w1)
    (hr : Row B w1 5 1 ao bs.length c bs) (hy : AllB bs) (hl : bs.length ≤ 4194304) (hlies : ∀ i, rowOf ao i → rowOf x.a0 i ∨ w.heap.size ≤ i) :
    NetAt B (w1.setCell ⟨x.lb, 0, none⟩ (.slice ao bs.length c)) pb mb last (setL L k 0 ao c bs) (mark own w.heap.size (k, 0)) ∧ Fr (FP own) w (w1.setCell ⟨x.lb, 0, none⟩ (.slice ao bs.length c)) := by
  obtain ⟨hxm, hxk⟩ := findL_mem hx
  have hX := h.each x hxm
  subst hxk
  have hlbn : ¬ rowOf x.a0 x.lb := fun hk => row_ne hX.r0 hX.blk (by decide) _ hk rfl
  have hblk1 : Blk w1 x.lb 57 #[.slice x.a0 x.b0.length x.c0, .slice x.a1 x.b1.length x.c1] := hX.blk.fr hf hlbn
  have hset : Fr (fun i => i = x.lb) w1 (w1.setCell ⟨x.lb, 0, none⟩ (.slice ao bs.length c)) := (Fr.refl (fun i => i = x.lb) w1).setCell (p := ⟨x.lb, 0, none⟩) (fun _ => rfl) _
  have hall : Fr (fun i => rowOf x.a0 i ∨ i = x.lb) w (w1.setCell ⟨x.lb, 0, none⟩ (.slice ao bs.length c)) := (hf.mono (fun _ _ h => Or.inl h)).trans hset (fun _ _ h => Or.inr h)
  have hmk : ∀ i, i < w.heap.size → mark own w.heap.size (x.k, 0) i = own i := mark_old _ _ _
  have hpbn : ¬ (rowOf x.a0 pb ∨ pb = x.lb) := by
    rintro (e | e)
    · exact row_ne hX.r0 h.blk (by decide) _ e rfl
    · exact Blk.ne_ h.blk hX.blk (by decide) e
  have hmbn : ¬ (rowOf x.a0 mb ∨ mb = x.lb) := by
    rintro (e | e)
    · exact row_ne_dict hX.r0 h.map _ e rfl
    · exact Blk.ne_dict hX.blk h.map e.symm
  refine ⟨⟨h.lowp, h.lowm, h.blk.fr hall hpbn, by rw [set_kv]; exact h.map.fr hall hmbn, ?_, ?_, ?_, by unfold setL; rw [List.length_map]; exact h.len, h.last0, h.last1, (hmk _ h.blk.lt).trans h.op, (hmk _ h.map.lt).trans h.om⟩, ?_⟩
  · intro y hy'
    unfold setL at hy'
    obtain ⟨x', hx', rfl⟩ := List.mem_map.1 hy'
    by_cases e : x'.k = x.k
    · rw [if_pos e]
      have : x' = x := key_one h.asc hx' hxm e
      subst this
      unfold Ln.set
      refine ⟨hX.lo, ?_, ?_, ?_, ?_, ?_, ?_, ?_, ?_, ?_, ?_⟩
      · exact hblk1.set_ 0 _
      · exact hr.fr hset (row_ne hr hblk1 (by decide))
      · exact hX.r1.fr hall (fun i hi ht => ht.elim (fun e => by have h1 := hX.o0 i e; rw [hX.o1 i hi] at h1; injection h1 with _ h2; cases h2) (fun e => row_ne hX.r1 hX.blk (by decide) i hi e))
      · exact hy
      · exact hX.y1
      · exact hl
      · exact hX.l1
      · exact (hmk _ hX.blk.lt).trans hX.o
      · exact fun i hi => (hlies i hi).elim (fun e => (hmk i (row_lt hX.r0 i e)).trans (hX.o0 i e)) (fun e => mark_new _ _ _ e)
      · exact fun i hi => (hmk i (row_lt hX.r1 i hi)).trans (hX.o1 i hi)
    · rw [if_neg e]
      have hX' := h.each x' hx'
      refine (hX'.relabel hmk).fr hall ?_
      rintro i hi (hq | hq) hz
      · have h1 := hX.o0 i hq
        rw [hmk i hi] at hz
        rcases hz with hz | hz | hz <;> (rw [h1] at hz; injection hz with hz _; exact e hz.symm)
      · subst hq
        have h1 := hX.o
        rw [hmk _ hi] at hz
        rcases hz with hz | hz | hz <;> (rw [h1] at hz; injection hz with hz _; exact e hz.symm)
  · unfold setL
    rw [List.pairwise_map]
    refine h.asc.imp ?_
    intro a b hab
    have ha : (if a.k = x.k then a.set 0 ao c bs else a).k = a.k := by split <;> first | exact set_k _ _ _ _ _ | rfl
    have hb : (if b.k = x.k then b.set 0 ao c bs else b).k = b.k := by split <;> first | exact set_k _ _ _ _ _ | rfl
    rw [ha, hb]
    exact hab
  · intro y hy'
    unfold setL at hy'
    obtain ⟨x', hx', rfl⟩ := List.mem_map.1 hy'
    have ha : (if x'.k = x.k then x'.set 0 ao c bs else x').k = x'.k := by split <;> first | exact set_k _ _ _ _ _ | rfl
    rw [ha]
    exact h.rng x' hx'
  · refine hall.mono ?_
    rintro i hi (e | e)
    · show (own i).2 ≤ 2
      rw [hX.o0 i e]; simp
    · subst e
      show (own x.lb).2 ≤ 2
      rw [hX.o]; simp

/-- Stream 1 of a link is stored anew. -/
theorem NetAt.put1 {B : Nat} {w w1 : World} {pb mb : Nat} {last : Int} {L : List Ln} {own : Own} {x : Ln} {k : Int} {ao : Option Addr} {c : Nat} {bs : List Value} (h : NetAt B w pb mb last L own) (hx : findL L k = some x) (hf : Fr (rowOf x.a1) w w1)
    (hr : Row B w1 5 1 ao bs.length c bs) (hy : AllB bs) (hl : bs.length ≤ 4194304) (hlies : ∀ i, rowOf ao i → rowOf x.a1 i ∨ w.heap.size ≤ i) :
    NetAt B (w1.setCell ⟨x.lb, 1, none⟩ (.slice ao bs.length c)) pb mb last (setL L k 1 ao c bs) (mark own w.heap.size (k, 1)) ∧ Fr (FP own) w (w1.setCell ⟨x.lb, 1, none⟩ (.slice ao bs.length c)) := by
  obtain ⟨hxm, hxk⟩ := findL_mem hx
  have hX := h.each x hxm
  subst hxk
  have hlbn : ¬ rowOf x.a1 x.lb := fun hk => row_ne hX.r1 hX.blk (by decide) _ hk rfl
  have hblk1 : Blk w1 x.lb 57 #[.slice x.a0 x.b0.length x.c0, .slice x.a1 x.b1.length x.c1] := hX.blk.fr hf hlbn
  have hset : Fr (fun i => i = x.lb) w1 (w1.setCell ⟨x.lb, 1, none⟩ (.slice ao bs.length c)) := (Fr.refl (fun i => i = x.lb) w1).setCell (p := ⟨x.lb, 1, none⟩) (fun _ => rfl) _
  have hall : Fr (fun i => rowOf x.a1 i ∨ i = x.lb) w (w1.setCell ⟨x.lb, 1, none⟩ (.slice ao bs.length c)) := (hf.mono (fun _ _ h => Or.inl h)).trans hset (fun _ _ h => Or.inr h)
  have hmk : ∀ i, i < w.heap.size → mark own w.heap.size (x.k, 1) i = own i := mark_old _ _ _
  have hpbn : ¬ (rowOf x.a1 pb ∨ pb = x.lb) := by
    rintro (e | e)
    · exact row_ne hX.r1 h.blk (by decide) _ e rfl
    · exact Blk.ne_ h.blk hX.blk (by decide) e
  have hmbn : ¬ (rowOf x.a1 mb ∨ mb = x.lb) := by
    rintro (e | e)
    · exact row_ne_dict hX.r1 h.map _ e rfl
    · exact Blk.ne_dict hX.blk h.map e.symm
  refine ⟨⟨h.lowp, h.lowm, h.blk.fr hall hpbn, by rw [set_kv]; exact h.map.fr hall hmbn, ?_, ?_, ?_, by unfold setL; rw [List.length_map]; exact h.len, h.last0, h.last1, (hmk _ h.blk.lt).trans h.op, (hmk _ h.map.lt).trans h.om⟩, ?_⟩
  · intro y hy'
    unfold setL at hy'
    obtain ⟨x', hx', rfl⟩ := List.mem_map.1 hy'
    by_cases e : x'.k = x.k
    · rw [if_pos e]
      have : x' = x := key_one h.asc hx' hxm e
      subst this
      unfold Ln.set
      refine ⟨hX.lo, ?_, ?_, ?_, ?_, ?_, ?_, ?_, ?_, ?_, ?_⟩
      · exact hblk1.set_ 1 _
      · exact hX.r0.fr hall (fun i hi ht => ht.elim (fun e => by have h1 := hX.o1 i e; rw [hX.o0 i hi] at h1; injection h1 with _ h2; cases h2) (fun e => row_ne hX.r0 hX.blk (by decide) i hi e))
      · exact hr.fr hset (row_ne hr hblk1 (by decide))
      · exact hX.y0
      · exact hy
      · exact hX.l0
      · exact hl
      · exact (hmk _ hX.blk.lt).trans hX.o
      · exact fun i hi => (hmk i (row_lt hX.r0 i hi)).trans (hX.o0 i hi)
      · exact fun i hi => (hlies i hi).elim (fun e => (hmk i (row_lt hX.r1 i e)).trans (hX.o1 i e)) (fun e => mark_new _ _ _ e)
    · rw [if_neg e]
      have hX' := h.each x' hx'
      refine (hX'.relabel hmk).fr hall ?_
      rintro i hi (hq | hq) hz
      · have h1 := hX.o1 i hq
        rw [hmk i hi] at hz
        rcases hz with hz | hz | hz <;> (rw [h1] at hz; injection hz with hz _; exact e hz.symm)
      · subst hq
        have h1 := hX.o
        rw [hmk _ hi] at hz
        rcases hz with hz | hz | hz <;> (rw [h1] at hz; injection hz with hz _; exact e hz.symm)
  · unfold setL
    rw [List.pairwise_map]
    refine h.asc.imp ?_
    intro a b hab
    have ha : (if a.k = x.k then a.set 1 ao c bs else a).k = a.k := by split <;> first | exact set_k _ _ _ _ _ | rfl
    have hb : (if b.k = x.k then b.set 1 ao c bs else b).k = b.k := by split <;> first | exact set_k _ _ _ _ _ | rfl
    rw [ha, hb]
    exact hab
  · intro y hy'
    unfold setL at hy'
    obtain ⟨x', hx', rfl⟩ := List.mem_map.1 hy'
    have ha : (if x'.k = x.k then x'.set 1 ao c bs else x').k = x'.k := by split <;> first | exact set_k _ _ _ _ _ | rfl
    rw [ha]
    exact h.rng x' hx'
  · refine hall.mono ?_
    rintro i hi (e | e)
    · show (own i).2 ≤ 2
      rw [hX.o1 i e]; simp
    · subst e
      show (own x.lb).2 ≤ 2
      rw [hX.o]; simp
end Go.Proofs.Ytmgdbilmfialkaa
