/- What came in: bytes, slices of bytes, numbers, acts. -/
import Derived.Test.YtmgdbilmfialkaaW7
import Derived.SizedLaws
namespace Go.Proofs.Ytmgdbilmfialkaa
open Go.RowKit Go.WideShapes Go.ChangeShapes Go.Deep

/-- The one-cell elements of a slice that came in. -/
theorem open_cells {H : Type} {enc : TypeId × Value → H} {P : Program} {w : World} {base : Nat} {sp : Nat → Bool} {held : Bool} {t e : TypeId} {fuel : Nat} {cs : List Value} {x : DataW H × List MemPlace} (ht : P.underlying t = some (.slice e)) (hC : P.cellsOf e = 1)
    (h : DataW.trod enc P w base sp held fuel t cs = some x) :
    ∃ (ao : Option Addr) (n c : Nat), cs = [.slice ao n c] ∧ n ≤ c ∧ c ≤ maxLen ∧ (ao = none → n = 0 ∧ c = 0) ∧ ((x.1 = .nil ∧ n = 0) ∨ ∃ el spr, x.1 = .slice el spr ∧ el.length = n) ∧
      ∀ i, i < n → ∃ b o v m y, ao = some ⟨b, o, none⟩ ∧ b < w.heap.size ∧ w.cell? ⟨b, o + i, none⟩ = some v ∧ DataW.trod enc P w base sp held m e [v] = some y ∧ ∃ el spr, x.1 = .slice el spr ∧ el[i]? = some y.1 := by
  rcases open_slice ht h with ⟨rfl, hx⟩ | ⟨a, len, cap, m, n, D, Pl, hcs, hb, hl, hm, hmm, hx, hi⟩
  · exact ⟨none, 0, 0, rfl, Nat.le_refl _, Nat.zero_le _, fun _ => ⟨rfl, rfl⟩, Or.inl ⟨by rw [hx], rfl⟩, fun i hi => absurd hi (Nat.not_lt_zero _)⟩
  · have key : ∀ i, i < len → ∃ (v : Value), w.cell? (a.add i) = some v ∧ DataW.trod enc P w base sp held n e [v] = some (D i, Pl i) := fun i hil => by
      obtain ⟨cs', hc, ht'⟩ := hi i (by split at hmm <;> omega)
      rw [hC, Nat.mul_one] at hc
      obtain ⟨_, hcl, hat⟩ := World.cells?_some hc
      have hcell := hat 0 (by omega)
      obtain ⟨v, rfl⟩ : ∃ v, cs' = [v] := by
        match cs', hcl with
        | [v], _ => exact ⟨v, rfl⟩
      refine ⟨v, ?_, ht'⟩
      have e0 : (a.add i).add 0 = a.add i := by unfold Addr.add; simp
      rw [e0] at hcell
      simpa using hcell
    refine ⟨some a, len, cap, hcs, hl, hm, (fun h => by cases h), Or.inr ⟨_, _, by rw [hx], by simp⟩, fun i hil => ?_⟩
    obtain ⟨b, off, spot⟩ := a
    have hspot : spot = none := by
      obtain ⟨_, cz, _⟩ := key 0 (by omega)
      simpa [Addr.add] using World.cell?_spot cz
    subst hspot
    obtain ⟨v, c, t'⟩ := key i hil
    rw [add_plain] at c
    exact ⟨b, off, v, n, _, rfl, World.block_lt_of_cell? w _ c, c, t', _, _, by rw [hx], by simp [hil]⟩
theorem bytes_trod {H : Type} {enc : TypeId × Value → H} {w : World} {base : Nat} {sp : Nat → Bool} {held : Bool} {fuel : Nat} {cs : List Value} {x : DataW H × List MemPlace} (h : DataW.trod enc Try.prog w base sp held fuel 29 cs = some x) :
    ∃ (ao : Option Addr) (n c : Nat) (xs : List Value), cs = [.slice ao n c] ∧ n ≤ 9223372036854775807 ∧ (ao = none → n = 0 ∧ c = 0) ∧ Src w 1 ao n xs ∧ AllB xs ∧ ((x.1 = .nil ∧ n = 0) ∨ ∃ el spr, x.1 = .slice el spr ∧ el.length = n) := by
  obtain ⟨ao, n, c, hcs, hl, hm, h0, hd, hi⟩ := open_cells Try.underlying29 (by kernel_rfl) h
  have hv : ∀ i, i < n → ∃ b o z, ao = some ⟨b, o, none⟩ ∧ b < w.heap.size ∧ w.cell? ⟨b, o + i, none⟩ = some (.int .u8 z) := fun i hil => by
    obtain ⟨b, o, v, m, y, e1, e2, e3, e4, _⟩ := hi i hil
    obtain ⟨z, e, _, _⟩ := DataW.trod_int Try.underlying5 e4
    simp only [List.cons.injEq, and_true] at e
    subst e
    exact ⟨b, o, z, e1, e2, e3⟩
  refine ⟨ao, n, c, (List.range n).map fun i => match ao with | some a => (w.cell? (a.add i)).getD undef | none => undef, hcs, by unfold maxLen at hm; omega, h0, ⟨by simp, fun j u hj => ?_⟩, ?_, hd⟩
  · have hjl : j < n := by have := (List.getElem?_eq_some_iff.1 hj).1; simpa using this
    obtain ⟨b, o, z, rfl, e2, e3⟩ := hv j hjl
    refine ⟨b, o, rfl, e2, ?_⟩
    rw [List.getElem?_map, List.getElem?_range hjl] at hj
    simp only [Option.map_some, add_plain, e3, Option.getD_some, Option.some.injEq] at hj
    rw [e3, hj]
  · intro v hv'
    obtain ⟨i, hi', rfl⟩ := List.mem_map.1 hv'
    obtain ⟨b, o, z, rfl, e2, e3⟩ := hv i (List.mem_range.1 hi')
    refine ⟨z, ?_⟩
    simp only [add_plain, e3, Option.getD_some]

/-- A slice of bytes that came in. -/
theorem bytes_of {H : Type} {enc : TypeId × Value → H} {w : World} {ao : Option Addr} {n c : Nat} {d : DataW H} {p : List MemPlace} (h : DataW.Trod enc Try.prog w 0 (fun _ => true) true 29 (.slice ao n c) d p) :
    ∃ xs, (Src w 1 ao n xs ∧ AllB xs ∧ (ao = none → n = 0 ∧ c = 0) ∧ ((d = .nil ∧ n = 0) ∨ ∃ el spr, d = .slice el spr ∧ el.length = n)) ∧ n ≤ 9223372036854775807 := by
  obtain ⟨fuel, hf⟩ := h
  obtain ⟨ao', n', c', xs, hcs, hn, h0, hs, hy, hd⟩ := bytes_trod hf
  simp [Value.cells] at hcs
  obtain ⟨rfl, rfl, rfl⟩ := hcs
  exact ⟨xs, ⟨hs, hy, h0, hd⟩, hn⟩

/-- Numbers that came in. -/
def Nums (w : World) (ao : Option Addr) (n : Nat) (Z : Nat → Int) : Prop := ∀ k, k < n → ∃ b o, ao = some ⟨b, o, none⟩ ∧ b < w.heap.size ∧ w.cell? ⟨b, o + k, none⟩ = some (.int .i64 (Z k)) ∧ -9223372036854775808 ≤ Z k ∧ Z k ≤ 9223372036854775807
theorem nums_of {H : Type} {enc : TypeId × Value → H} {w : World} {ao : Option Addr} {n c : Nat} {d : DataW H} {p : List MemPlace} (h : DataW.Trod enc Try.prog w 0 (fun _ => true) true 23 (.slice ao n c) d p) :
    ∃ Z, Nums w ao n Z ∧ n ≤ 9223372036854775807 := by
  obtain ⟨fuel, hf⟩ := h
  obtain ⟨ao', n', c', hcs, hl, hm, h0, hd, hi⟩ := open_cells Try.underlying23 (by kernel_rfl) hf
  simp [Value.cells] at hcs
  obtain ⟨rfl, rfl, rfl⟩ := hcs
  have key : ∀ i, i < n → ∃ z : Int, ∃ b o, ao = some ⟨b, o, none⟩ ∧ b < w.heap.size ∧ w.cell? ⟨b, o + i, none⟩ = some (.int .i64 z) ∧ -9223372036854775808 ≤ z ∧ z ≤ 9223372036854775807 := fun i hil => by
    obtain ⟨b, o, v, m, y, e1, e2, e3, e4, _⟩ := hi i hil
    obtain ⟨z, e, _, hw⟩ := DataW.trod_int Try.underlying3 e4
    simp only [List.cons.injEq, and_true] at e
    subst e
    obtain ⟨q1, q2⟩ := bounds_i64 hw
    exact ⟨z, b, o, e1, e2, e3, q1, q2⟩
  obtain ⟨Z, hZ⟩ := choose_lt key
  exact ⟨Z, hZ, by unfold maxLen at hm; omega⟩

/-- A piece. -/
structure Pc where
  ao : Option Addr
  n : Nat
  c : Nat
  xs : List Value
instance : Inhabited Pc := ⟨⟨none, 0, 0, []⟩⟩
/-- Pieces that came in, none longer than M. -/
def Pcs (M : Nat) (w : World) (ao : Option Addr) (n : Nat) (F : Nat → Pc) : Prop := ∀ k, k < n → ∃ b o, ao = some ⟨b, o, none⟩ ∧ b < w.heap.size ∧ w.cell? ⟨b, o + k, none⟩ = some (.slice (F k).ao (F k).n (F k).c) ∧ Src w 1 (F k).ao (F k).n (F k).xs ∧ AllB (F k).xs ∧ (F k).n ≤ M
theorem weights_all_mem {H : Type} {P : Program} {e : TypeId} : ∀ {l : List (DataW H)} {d : DataW H}, d ∈ l → ∀ n ∈ d.weights P e, n ∈ DataW.weightsAll P e l
  | a :: l, d, hd, n, hn => by
    unfold DataW.weightsAll
    rcases List.mem_cons.1 hd with rfl | hd
    · exact List.mem_append_left _ hn
    · exact List.mem_append_right _ (weights_all_mem hd n hn)
theorem pcs_of {H : Type} {enc : TypeId × Value → H} {w : World} {ao : Option Addr} {n c : Nat} {d : DataW H} {p : List MemPlace} (h : DataW.Trod enc Try.prog w 0 (fun _ => true) true 22 (.slice ao n c) d p)
    {ts : List TypeId} {ds : List (DataW H)} (hs : (DataW.weightsEach Try.prog ts ds).all (· ≤ reachBytes) = true) {j : Nat} (hj : ts[j]? = some 22) (hd : ds[j]? = some d) :
    ∃ F, Pcs 140737488351232 w ao n F ∧ n ≤ 9223372036854775807 := by
  obtain ⟨fuel, hf⟩ := h
  obtain ⟨ao', n', c', hcs, hl, hm, h0, _, hi⟩ := open_cells Try.underlying22 (by kernel_rfl) hf
  simp [Value.cells] at hcs
  obtain ⟨rfl, rfl, rfl⟩ := hcs
  have hb5 : Try.prog.bytesOf 5 = 1 := by kernel_rfl
  have key : ∀ i, i < n → ∃ q : Pc, ∃ b o, ao = some ⟨b, o, none⟩ ∧ b < w.heap.size ∧ w.cell? ⟨b, o + i, none⟩ = some (.slice q.ao q.n q.c) ∧ Src w 1 q.ao q.n q.xs ∧ AllB q.xs ∧ q.n ≤ 140737488351232 := fun i hil => by
    obtain ⟨b, o, v, m, y, e1, e2, e3, e4, el, spr, hdx, hel⟩ := hi i hil
    obtain ⟨po, pn, pc, xs, e, _, _, q1, q2, q3⟩ := bytes_trod e4
    simp only [List.cons.injEq, and_true] at e
    subst e
    refine ⟨⟨po, pn, pc, xs⟩, b, o, e1, e2, e3, q1, q2, ?_⟩
    show pn ≤ _
    rcases q3 with ⟨_, hn0⟩ | ⟨el', spr', hy, hel'⟩
    · rw [hn0]; exact Nat.zero_le _
    · have hy2 : (el'.length + spr'.length) * Try.prog.bytesOf 5 ∈ (y.1).weights Try.prog 29 := by
        rw [hy]
        simp [DataW.weights, Try.underlying29]
      have hmem : (el'.length + spr'.length) * Try.prog.bytesOf 5 ∈ d.weights Try.prog 22 := by
        rw [show d = _ from hdx]
        unfold DataW.weights
        rw [Try.underlying22]
        refine List.mem_cons_of_mem _ (List.mem_append_left _ ?_)
        exact weights_all_mem (List.mem_of_getElem? hel) _ hy2
      have := List.all_eq_true.1 hs _ (DataW.weights_mem_each hj hd _ hmem)
      rw [hb5] at this
      unfold reachBytes at this
      simp only [decide_eq_true_eq] at this
      omega
  obtain ⟨F, hF⟩ := choose_lt key
  exact ⟨F, hF, by unfold maxLen at hm; omega⟩

/-- One act. -/
structure ActV where
  d : Int
  k : Int
  way : Int
  most : Int
  b : Pc
instance : Inhabited ActV := ⟨⟨0, 0, 0, 0, default⟩⟩
def InI (z : Int) : Prop := -9223372036854775808 ≤ z ∧ z ≤ 9223372036854775807
structure ActAt (w : World) (b o i : Nat) (a : ActV) : Prop where
  k0 : w.cell? ⟨b, o + i * 5, none⟩ = some (.int .i64 a.d)
  k1 : w.cell? ⟨b, o + i * 5 + 1, none⟩ = some (.int .i64 a.k)
  k2 : w.cell? ⟨b, o + i * 5 + 2, none⟩ = some (.int .i64 a.way)
  k3 : w.cell? ⟨b, o + i * 5 + 3, none⟩ = some (.int .i64 a.most)
  k4 : w.cell? ⟨b, o + i * 5 + 4, none⟩ = some (.slice a.b.ao a.b.n a.b.c)
  src : Src w 1 a.b.ao a.b.n a.b.xs
  all : AllB a.b.xs
  len : a.b.n ≤ 9223372036854775807
  in1 : InI a.k
theorem ActAt.below {w w' : World} {b o i B : Nat} {a : ActV} (h : ActAt w b o i a) (hb : Below B w w') (hB : w.heap.size ≤ B) (hbl : b < w.heap.size) : ActAt w' b o i a := by
  have hB2 : b < B := by omega
  exact ⟨(hb.cell (p := ⟨b, _, none⟩) hB2).trans h.k0, (hb.cell (p := ⟨b, _, none⟩) hB2).trans h.k1, (hb.cell (p := ⟨b, _, none⟩) hB2).trans h.k2, (hb.cell (p := ⟨b, _, none⟩) hB2).trans h.k3, (hb.cell (p := ⟨b, _, none⟩) hB2).trans h.k4,
    h.src.below hb (fun k _ hk => by omega), h.all, h.len, h.in1⟩
def Acts (w : World) (ao : Option Addr) (n : Nat) (A : Nat → ActV) : Prop := ∀ k, k < n → ∃ b o, ao = some ⟨b, o, none⟩ ∧ b < w.heap.size ∧ ActAt w b o k (A k)
theorem acts_of {H : Type} {enc : TypeId × Value → H} {w : World} {ao : Option Addr} {n c : Nat} {d : DataW H} {p : List MemPlace} (h : DataW.Trod enc Try.prog w 0 (fun _ => true) true 37 (.slice ao n c) d p) : ∃ A, Acts w ao n A ∧ n ≤ 9223372036854775807 := by
  obtain ⟨fuel, hf⟩ := h
  obtain ⟨ao', len, cap, hcs, hl, hm, hi⟩ := open_slice_fields Try.underlying37 Try.underlying66 (by kernel_rfl) (by kernel_rfl) 5 rfl (by omega) hf
  simp [Value.cells] at hcs
  obtain ⟨rfl, rfl, rfl⟩ := hcs
  have hlen : n ≤ 9223372036854775807 := by unfold maxLen at hm; omega
  have key : ∀ i, i < n → ∃ q : ActV, ∃ b o, ao = some ⟨b, o, none⟩ ∧ b < w.heap.size ∧ ActAt w b o i q := fun i hlt => by
    obtain ⟨b, o, hao, hb, hi⟩ := hi i hlt
    obtain ⟨n0, v0, y0, c0, t0⟩ := hi 0 _ rfl
    obtain ⟨n1, v1, y1, c1, t1⟩ := hi 1 _ rfl
    obtain ⟨n2, v2, y2, c2, t2⟩ := hi 2 _ rfl
    obtain ⟨n3, v3, y3, c3, t3⟩ := hi 3 _ rfl
    obtain ⟨n4, v4, y4, c4, t4⟩ := hi 4 _ rfl
    obtain ⟨x0, e0, _, w0⟩ := DataW.trod_int Try.underlying3 t0
    obtain ⟨x1, e1, _, w1⟩ := DataW.trod_int Try.underlying3 t1
    obtain ⟨x2, e2, _, w2⟩ := DataW.trod_int Try.underlying3 t2
    obtain ⟨x3, e3, _, w3⟩ := DataW.trod_int Try.underlying3 t3
    obtain ⟨po, pn, pc, xs, e4, q0, _, q1, q2, _⟩ := bytes_trod t4
    simp only [List.cons.injEq, and_true] at e0 e1 e2 e3 e4
    subst e0 e1 e2 e3 e4
    rw [← Nat.add_assoc] at c0 c1 c2 c3 c4
    exact ⟨⟨x0, x1, x2, x3, ⟨po, pn, pc, xs⟩⟩, b, o, hao, hb, ⟨c0, c1, c2, c3, c4, q1, q2, q0, bounds_i64 w1⟩⟩
  obtain ⟨f, hf⟩ := choose_lt key
  exact ⟨f, hf, hlen⟩
end Go.Proofs.Ytmgdbilmfialkaa
