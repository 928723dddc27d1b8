/- A map with keys of an integer kind, told as the list of its keys and values: its laws, at the operations: words shared by the texts of this seat. -/
import Derived.Test.YtbgjajhnjkldkaaS
namespace Go.Proofs.Ytbgjajhnjkldkaa
open Go.RowKit Go.Maps

/-- Each value reads as itself. -/
def heldR (v : Value) : Option (DataW Value × List MemPlace) := some (.held v, [])
/-- What a list tells of a key. -/
def getD (M : List (Int × Value)) (k : Int) : Option Value := (M.find? fun p => decide (p.1 = k)).map (·.2)
def delD (M : List (Int × Value)) (k : Int) : List (Int × Value) := M.filter fun p => decide (¬ p.1 = k)
/-- No key twice. -/
def Once (M : List (Int × Value)) : Prop := M.Pairwise fun p q => p.1 ≠ q.1

theorem getD_nil (k : Int) : getD [] k = none := rfl
theorem getD_none {M : List (Int × Value)} {k : Int} : getD M k = none ↔ ∀ p ∈ M, p.1 ≠ k := by
  unfold getD
  simp
theorem getD_add {M : List (Int × Value)} {k : Int} (v : Value) (h : getD M k = none) (j : Int) : getD (M ++ [(k, v)]) j = if j = k then some v else getD M j := by
  unfold getD at *
  rw [List.find?_append]
  by_cases e : j = k
  · subst e
    rw [if_pos rfl]
    rw [Option.map_eq_none_iff] at h
    rw [h]
    simp
  · rw [if_neg e]
    have : [(k, v)].find? (fun p => decide (p.1 = j)) = none := by simp; exact fun h => e h.symm
    rw [this, Option.or_none]
theorem getD_mem {M : List (Int × Value)} {k : Int} {v : Value} (h : getD M k = some v) : (k, v) ∈ M := by
  unfold getD at h
  rw [Option.map_eq_some_iff] at h
  obtain ⟨⟨a, b⟩, h1, h2⟩ := h
  have h3 := List.find?_some h1
  have h4 := List.mem_of_find?_eq_some h1
  simp at h3 h2
  subst h3 h2
  exact h4
theorem getD_of_mem {M : List (Int × Value)} (hM : Once M) {k : Int} {v : Value} (h : (k, v) ∈ M) : getD M k = some v := by
  cases hg : getD M k with
  | none => exact absurd rfl (getD_none.1 hg _ h)
  | some u =>
    have hu := getD_mem hg
    obtain ⟨i, hi⟩ := List.mem_iff_getElem?.1 h
    obtain ⟨j, hj⟩ := List.mem_iff_getElem?.1 hu
    obtain ⟨hil, hie⟩ := List.getElem?_eq_some_iff.1 hi
    obtain ⟨hjl, hje⟩ := List.getElem?_eq_some_iff.1 hj
    have hpw := List.pairwise_iff_getElem.1 hM
    rcases Nat.lt_trichotomy i j with h | h | h
    · have := hpw i j hil hjl h; rw [hie, hje] at this; exact absurd rfl this
    · subst h; rw [hie] at hje; injection hje with _ h2; rw [h2]
    · have := hpw j i hjl hil h; rw [hie, hje] at this; exact absurd rfl this
theorem getD_del (M : List (Int × Value)) (k j : Int) : getD (delD M k) j = if j = k then none else getD M j := by
  by_cases e : j = k
  · subst e
    rw [if_pos rfl, getD_none]
    intro p hp
    have := (List.mem_filter.1 hp).2
    simpa using this
  · rw [if_neg e]
    unfold getD delD
    congr 1
    induction M with
    | nil => rfl
    | cons p M ih =>
      by_cases hk : p.1 = k
      · rw [List.filter_cons, if_neg (by simp [hk]), ih, List.find?_cons]
        have : decide (p.1 = j) = false := by simp; intro h; exact e (h.symm.trans hk)
        rw [this]
      · rw [List.filter_cons, if_pos (by simpa using hk), List.find?_cons, List.find?_cons, ih]
theorem Once.add {M : List (Int × Value)} (h : Once M) {k : Int} (hk : getD M k = none) (v : Value) : Once (M ++ [(k, v)]) := by
  refine List.pairwise_append.2 ⟨h, List.pairwise_singleton _ _, fun a ha b hb => ?_⟩
  rw [List.mem_singleton.1 hb]
  exact getD_none.1 hk a ha
theorem Once.del {M : List (Int × Value)} (h : Once M) (k : Int) : Once (delD M k) := h.sublist List.filter_sublist
theorem del_len {M : List (Int × Value)} (h : Once M) {k : Int} (hk : (getD M k).isSome = true) : (delD M k).length + 1 = M.length := by
  induction M with
  | nil => simp [getD] at hk
  | cons p M ih =>
    obtain ⟨h1, h2⟩ := List.pairwise_cons.1 h
    by_cases e : p.1 = k
    · have : delD M k = M := List.filter_eq_self.2 (fun q hq => by have := h1 q hq; rw [e] at this; simpa using fun h => this h.symm)
      show (delD (p :: M) k).length + 1 = _
      unfold delD at this ⊢
      rw [List.filter_cons, if_neg (by simp [e]), this]
      rfl
    · have hk' : (getD M k).isSome = true := by
        unfold getD at hk ⊢
        rw [List.find?_cons] at hk
        have : decide (p.1 = k) = false := by simpa using e
        rw [this] at hk
        exact hk
      have := ih h2 hk'
      unfold delD at this ⊢
      rw [List.filter_cons, if_pos (by simpa using e)]
      simp only [List.length_cons]
      omega
theorem del_none {M : List (Int × Value)} {k : Int} (hk : getD M k = none) : delD M k = M :=
  List.filter_eq_self.2 (fun q hq => by have := getD_none.1 hk q hq; simpa using this)

/-- THE DATUM D IS THE LIST M. -/
structure IsDict (q : IntKind) (D : DataW Value) (M : List (Int × Value)) : Prop where
  tidy : Tidy D
  look : ∀ (k : Int) (z : Value), D.atKey (.int q k) (.held z) = .held ((getD M k).getD z)
  has : ∀ k : Int, Maps.has D (.int q k) = (getD M k).isSome
  size : Maps.size D = M.length
  once : Once M
theorem key_ne {q : IntKind} {a b : Int} (h : a ≠ b) : (Lit.int q a) ≠ .int q b := fun e => by injection e with _ e; exact h e
theorem key_is (q : IntKind) (k : Int) : WideAt.IsKeyLit (Lit.int q k) := trivial
theorem IsDict.empty (q : IntKind) : IsDict q (.map []) [] := ⟨tidy_empty, fun _ _ => rfl, fun _ => rfl, rfl, List.Pairwise.nil⟩
theorem IsDict.put {q : IntKind} {D : DataW Value} {M : List (Int × Value)} (h : IsDict q D M) {k : Int} (hk : getD M k = none) (v : Value) : IsDict q (D.put (.int q k) (.held v)) (M ++ [(k, v)]) := by
  refine ⟨h.tidy.put (key_is q k) _, fun j z => ?_, fun j => ?_, ?_, h.once.add hk v⟩
  · rw [getD_add v hk]
    by_cases e : j = k
    · subst e
      rw [atKey_put_same h.tidy.isMap (key_is q j), if_pos rfl]
      rfl
    · rw [atKey_put_other (key_ne e), if_neg e, h.look]
  · rw [getD_add v hk]
    by_cases e : j = k
    · subst e
      rw [has_put_same h.tidy.isMap (key_is q j), if_pos rfl]
      rfl
    · rw [has_put_other (key_ne e), if_neg e, h.has]
  · rw [size_put h.tidy, h.has, h.size, hk]
    simp
theorem IsDict.del {q : IntKind} {D : DataW Value} {M : List (Int × Value)} (h : IsDict q D M) (k : Int) : IsDict q (D.del (.int q k)) (delD M k) := by
  refine ⟨h.tidy.del _, fun j z => ?_, fun j => ?_, ?_, h.once.del k⟩
  · rw [getD_del]
    by_cases e : j = k
    · subst e
      rw [atKey_del_same, if_pos rfl]
      rfl
    · rw [atKey_del_other (key_ne e), if_neg e, h.look]
  · rw [getD_del]
    by_cases e : j = k
    · subst e
      rw [has_del_same, if_pos rfl]
      rfl
    · rw [has_del_other (key_ne e), if_neg e, h.has]
  · have h1 := size_del (k := Lit.int q k) h.tidy
    rw [h.has, h.size] at h1
    cases hg : getD M k with
    | none => rw [del_none hg]; rw [hg] at h1; simpa using h1
    | some v =>
      have h2 := del_len h.once (k := k) (by rw [hg]; rfl)
      rw [hg] at h1
      simp at h1
      omega

/-- Block b of w is a map that is the list M. -/
def DictAt (P : Program) (kt : TypeId) (q : IntKind) (w : World) (b : Nat) (M : List (Int × Value)) : Prop := ∃ D : DataW Value, w.ownsMap P kt heldR b M.length D ∧ IsDict q D M
theorem ownsMap_exact {w : World} {P : Program} {k : TypeId} {R : Value → Option (DataW Value × List MemPlace)} {b n : Nat} {D : DataW Value} (h : w.ownsMap P k R b n D) : w.ownsMap P k R b (Maps.size D) D := by
  obtain ⟨es, ck, hb, F, hs, rfl⟩ := h
  refine ⟨es, ck, hb, F, ?_, rfl⟩
  simp [Maps.size, length_sorted]
section
variable {P : Program} {kt : TypeId} {q : IntKind} {w w' : World} {b : Nat} {M : List (Int × Value)}
theorem DictAt.lt (h : DictAt P kt q w b M) : b < w.heap.size := by obtain ⟨D, h, _⟩ := h; exact h.lt
theorem DictAt.once (h : DictAt P kt q w b M) : Once M := by obtain ⟨D, _, h⟩ := h; exact h.once
theorem DictAt.isMap (h : DictAt P kt q w b M) : ∃ es ck, w.heap[b]? = some (.map es ck) := by
  obtain ⟨D, ⟨es, ck, hb, _⟩, _⟩ := h
  exact ⟨es, ck, hb⟩
theorem DictAt.of_block (h : DictAt P kt q w b M) (e : w'.heap[b]? = w.heap[b]?) : DictAt P kt q w' b M := by
  obtain ⟨D, ⟨es, ck, hb, r⟩, hS⟩ := h
  exact ⟨D, ⟨es, ck, e.trans hb, r⟩, hS⟩
theorem DictAt.fr {T : Nat → Prop} (h : DictAt P kt q w b M) (hf : Fr T w w') (hb : ¬ T b) : DictAt P kt q w' b M := h.of_block (hf.block b h.lt hb)
theorem DictAt.drew (h : DictAt P kt q w b M) : DictAt P kt q w.drew b M := h
theorem DictAt.made (P : Program) (kt : TypeId) (q : IntKind) (w : World) : DictAt P kt q (w.alloc (.map #[] 0)) w.heap.size [] := ⟨_, World.ownsMap_made w P kt heldR, IsDict.empty q⟩
theorem Blk.ne_dict {g : Nat} {t : TypeId} {cs : Array Value} (h : Blk w g t cs) (h' : DictAt P kt q w b M) : g ≠ b := by
  obtain ⟨es, ck, he⟩ := h'.isMap
  exact h.ne_map he
end

/-! ### at the operations -/
section
variable {P : Program} {kt : TypeId} {q : IntKind} (w : World) {ops : Array Oper} {rest : List Oper} {o : Oper} {a : Act} {Q : Exit → Act → World → Prop}
theorem dict_look {t e : TypeId} (hq : P.underlying kt = some (.int q)) (ht : P.underlying t = some (.map kt e)) {z : Value} (hz : (zeroValue e).run P w = .ok z w) {b : Nat} {M : List (Int × Value)} (hs : DictAt P kt q w b M) {k : Int} (hk : (Lit.int q k).wf = true) :
    (Instr.lookup t (.map (some b)) (.int q k) false).run P w = .ok ((getD M k).getD z) w := by
  obtain ⟨D, hown, hS⟩ := hs
  obtain ⟨v, ps, hrun, hv⟩ := hown.lookup (int_keyed hq) ht hz (show heldR z = some (.held z, []) from rfl) (keyOf_int_mk hq hk)
  rw [hS.look] at hv
  unfold heldR at hv
  injection hv with hv
  injection hv with hv _
  injection hv with hv
  subst hv
  exact hrun
theorem dict_look_ok {t e : TypeId} (hq : P.underlying kt = some (.int q)) (ht : P.underlying t = some (.map kt e)) {z : Value} (hz : (zeroValue e).run P w = .ok z w) {b : Nat} {M : List (Int × Value)} (hs : DictAt P kt q w b M) {k : Int} (hk : (Lit.int q k).wf = true) :
    (Instr.lookup t (.map (some b)) (.int q k) true).run P w = .ok (.tuple #[(getD M k).getD z, .bool (getD M k).isSome]) w := by
  obtain ⟨D, hown, hS⟩ := hs
  obtain ⟨v, ps, hrun, hv⟩ := hown.look_ok (int_keyed hq) ht hz (show heldR z = some (.held z, []) from rfl) (keyOf_int_mk hq hk)
  rw [hS.look] at hv
  rw [hS.has] at hrun
  unfold heldR at hv
  injection hv with hv
  injection hv with hv _
  injection hv with hv
  subst hv
  exact hrun
theorem wpList_lookup_dict (hg : o.guard = none) (m x : Operand) (t : TypeId) (hop : o.op = Op.lookup t m x false) (kt e : TypeId) (q : IntKind) (hq : P.underlying kt = some (.int q)) (ht : P.underlying t = some (.map kt e)) (z : Value) (hz : (zeroValue e).run P w = .ok z w)
    (b : Nat) (M : List (Int × Value)) (hm : a.eval m = .map (some b)) (hs : DictAt P kt q w b M) (k : Int) (hx : a.eval x = .int q k) (hk : (Lit.int q k).wf = true)
    (hK : wpList P ops Q rest (a.put o.dst ((getD M k).getD z)) w) : wpList P ops Q (o :: rest) a w := by
  refine wpList_plain hg fun K' hK' => ?_
  have hrun := dict_look w hq ht hz hs hk
  unfold Oper.wp
  simp [execOp, hop, hm, hx, hrun, Result.andThen]
  exact hK' _ _ hK
theorem wpList_lookup_dict_ok (hg : o.guard = none) (m x : Operand) (t : TypeId) (hop : o.op = Op.lookup t m x true) (kt e : TypeId) (q : IntKind) (hq : P.underlying kt = some (.int q)) (ht : P.underlying t = some (.map kt e)) (z : Value) (hz : (zeroValue e).run P w = .ok z w)
    (b : Nat) (M : List (Int × Value)) (hm : a.eval m = .map (some b)) (hs : DictAt P kt q w b M) (k : Int) (hx : a.eval x = .int q k) (hk : (Lit.int q k).wf = true)
    (hK : wpList P ops Q rest (a.put o.dst (.tuple #[(getD M k).getD z, .bool (getD M k).isSome])) w) : wpList P ops Q (o :: rest) a w := by
  refine wpList_plain hg fun K' hK' => ?_
  have hrun := dict_look_ok w hq ht hz hs hk
  unfold Oper.wp
  simp [execOp, hop, hm, hx, hrun, Result.andThen]
  exact hK' _ _ hK
theorem dict_put {t e : TypeId} (hq : P.underlying kt = some (.int q)) (ht : P.underlying t = some (.map kt e)) {b : Nat} {M : List (Int × Value)} (hs : DictAt P kt q w b M) {k : Int} (hk : (Lit.int q k).wf = true) (hn : getD M k = none) (hl : M.length < 1000000) (v : Value) :
    ∃ w', (Instr.mapUpdate t (.map (some b)) (.int q k) v).run P w = .ok () w' ∧ DictAt P kt q w' b (M ++ [(k, v)]) ∧ Fr (fun j => j = b) w w' := by
  obtain ⟨D, hown, hS⟩ := hs
  obtain ⟨w', hrun, h1, h2⟩ := hown.store (int_keyed hq) ht (by unfold maxLen; omega) (keyOf_int_mk hq hk) (show heldR v = some (.held v, []) from rfl)
  refine ⟨w', hrun, ⟨_, by rw [List.length_append]; exact h1, hS.put hn v⟩, (Fr.refl _ _).grown h2.grown (fun j _ e => by injection e with e; exact e.symm)⟩
theorem wpList_update_dict (hg : o.guard = none) (m x v : Operand) (t : TypeId) (hop : o.op = Op.mapUpdate t m x v ∨ o.op = Op.insert t m x v) (kt e : TypeId) (q : IntKind) (hq : P.underlying kt = some (.int q)) (ht : P.underlying t = some (.map kt e))
    (b : Nat) (M : List (Int × Value)) (hm : a.eval m = .map (some b)) (hs : DictAt P kt q w b M) (k : Int) (hx : a.eval x = .int q k) (hk : (Lit.int q k).wf = true) (u : Value) (hv : a.eval v = u) (hn : getD M k = none) (hl : M.length < 1000000)
    (hK : ∀ w', DictAt P kt q w' b (M ++ [(k, u)]) → Fr (fun j => j = b) w w' → wpList P ops Q rest (a.put o.dst undef) w') : wpList P ops Q (o :: rest) a w := by
  refine wpList_plain hg fun K' hK' => ?_
  obtain ⟨w', hrun, r1, r2⟩ := dict_put w hq ht hs hk hn hl u
  unfold Oper.wp
  rcases hop with hop | hop
  · simp [execOp, hop, hm, hx, hv, hrun, Result.andThen]
    exact hK' _ _ (hK w' r1 r2)
  · simp [execOp, hop, hm, hx, hv, hrun, Result.andThen]
    exact hK' _ _ (hK w' r1 r2)
theorem dict_drop {t e : TypeId} (hq : P.underlying kt = some (.int q)) (ht : P.underlying t = some (.map kt e)) {b : Nat} {M : List (Int × Value)} (hs : DictAt P kt q w b M) {k : Int} (hk : (Lit.int q k).wf = true) (ty : TypeId) :
    ∃ w', (Builtin.delete_ #[t, kt] ty #[.map (some b), .int q k]).run P w = .ok (.tuple #[]) w' ∧ DictAt P kt q w' b (delD M k) ∧ Fr (fun j => j = b) w w' := by
  obtain ⟨D, hown, hS⟩ := hs
  obtain ⟨w', hrun, r1, r2⟩ := hown.drop (int_keyed hq) ht (keyOf_int_mk hq hk) ty
  have h2 := hS.del k
  refine ⟨w', hrun, ⟨_, ?_, h2⟩, (Fr.refl _ _).grown r2.grown (fun j _ e => by injection e with e; exact e.symm)⟩
  have := ownsMap_exact r1
  rw [h2.size] at this
  exact this
theorem wpList_delete_dict (hg : o.guard = none) (m x : Operand) (t kt : TypeId) (hop : o.op = Op.call { callee := Callee.builtin Builtin.delete, args := #[m, x], argTypes := #[t, kt] }) (e : TypeId) (q : IntKind) (hq : P.underlying kt = some (.int q)) (ht : P.underlying t = some (.map kt e))
    (b : Nat) (M : List (Int × Value)) (hm : a.eval m = .map (some b)) (hs : DictAt P kt q w b M) (k : Int) (hx : a.eval x = .int q k) (hk : (Lit.int q k).wf = true)
    (hK : ∀ w', DictAt P kt q w' b (delD M k) → Fr (fun j => j = b) w w' → wpList P ops Q rest (a.put o.dst (.tuple #[])) w') : wpList P ops Q (o :: rest) a w := by
  refine wpList_plain hg fun K' hK' => ?_
  obtain ⟨w', hrun, r1, r2⟩ := dict_drop w hq ht hs hk o.type
  unfold Oper.wp
  simp [execOp, hop, resolve, invoke, builtin, hm, hx, hrun, Result.andThen]
  exact hK' _ _ (hK w' r1 r2)
theorem dict_len {t e : TypeId} (ht : P.underlying t = some (.map kt e)) {b : Nat} {M : List (Int × Value)} (hs : DictAt P kt q w b M) (ty : TypeId) : (Builtin.len_ #[t] ty #[.map (some b)]).run P w = .ok (.int .i64 (M.length : Int)) w := by
  obtain ⟨D, hown, hS⟩ := hs
  have hrun := hown.len ht ty
  rw [hS.size] at hrun
  exact hrun
theorem wpList_len_dict (hg : o.guard = none) (m : Operand) (t : TypeId) (hop : o.op = Op.call { callee := Callee.builtin Builtin.len, args := #[m], argTypes := #[t] }) (kt e : TypeId) (q : IntKind) (ht : P.underlying t = some (.map kt e)) (b : Nat) (M : List (Int × Value))
    (hm : a.eval m = .map (some b)) (hs : DictAt P kt q w b M) (hK : wpList P ops Q rest (a.put o.dst (.int .i64 (M.length : Int))) w) : wpList P ops Q (o :: rest) a w := by
  refine wpList_plain hg fun K' hK' => ?_
  have hrun := dict_len w ht hs o.type
  unfold Oper.wp
  simp [execOp, hop, resolve, invoke, builtin, hm, hrun, Result.andThen]
  exact hK' _ _ hK
end

/-! ### a range over it -/
/-- A range over the map at b, its place in block r: lf tells the keys that are still to come, cnt of them. -/
def RangeAt (P : Program) (kt : TypeId) (q : IntKind) (w : World) (b r : Nat) (M : List (Int × Value)) (lf : Int → Bool) (cnt : Nat) : Prop :=
  ∃ (D : DataW Value) (left : Lit → Bool), w.ranges P kt heldR b r M.length D left cnt ∧ IsDict q D M ∧ ∀ k : Int, left (.int q k) = lf k
section
variable {P : Program} {kt : TypeId} {q : IntKind} {w w' : World} {b r : Nat} {M : List (Int × Value)} {lf : Int → Bool} {cnt : Nat}
theorem RangeAt.left_eq (h : RangeAt P kt q w b r M lf cnt) : w.rangeLeft b r = cnt := by obtain ⟨D, left, h, _⟩ := h; exact h.left_eq
theorem RangeAt.ne (h : RangeAt P kt q w b r M lf cnt) : r ≠ b := by obtain ⟨D, left, h, _⟩ := h; exact h.ne
theorem RangeAt.lt (h : RangeAt P kt q w b r M lf cnt) : r < w.heap.size := by obtain ⟨D, left, h, _⟩ := h; exact h.lt
theorem RangeAt.dict (h : RangeAt P kt q w b r M lf cnt) : DictAt P kt q w b M := by obtain ⟨D, left, h, hd, _⟩ := h; exact ⟨D, h.owns, hd⟩
theorem RangeAt.fr {T : Nat → Prop} (h : RangeAt P kt q w b r M lf cnt) (hf : Fr T w w') (hb : ¬ T b) (hr : ¬ T r) : RangeAt P kt q w' b r M lf cnt := by
  have h1 := h.dict.lt
  have h2 := h.lt
  obtain ⟨D, left, ⟨es, clock, since, seen, c0, hb', F, hs, hD, hr', rest⟩, hd, hl⟩ := h
  exact ⟨D, left, ⟨es, clock, since, seen, c0, (hf.block b h1 hb).trans hb', F, hs, hD, (hf.block r h2 hr).trans hr', rest⟩, hd, hl⟩
theorem RangeAt.iter (h : RangeAt P kt q w b r M lf cnt) : ∃ since seen c0, w.heap[r]? = some (.mapIter (some b) since seen c0) := by
  obtain ⟨D, left, ⟨es, clock, since, seen, c0, hb', F, hs, hD, hr', rest⟩, hd, hl⟩ := h
  exact ⟨_, _, _, hr'⟩
end
section
variable {P : Program} (w : World) {ops : Array Oper} {rest : List Oper} {o : Oper} {a : Act} {Q : Exit → Act → World → Prop}
theorem wpList_range_dict (hg : o.guard = none) (m : Operand) (t : TypeId) (hop : o.op = Op.range t m) (kt e : TypeId) (q : IntKind) (hq : P.underlying kt = some (.int q)) (ht : P.underlying t = some (.map kt e)) (b : Nat) (M : List (Int × Value))
    (hm : a.eval m = .map (some b)) (hs : DictAt P kt q w b M)
    (hK : ∀ w', RangeAt P kt q w' b w.heap.size M (fun k => (getD M k).isSome) M.length → Fr none0 w w' → w'.heap.size = w.heap.size + 1 → wpList P ops Q rest (a.put o.dst (.pointer (some ⟨w.heap.size, 0, none⟩))) w') :
    wpList P ops Q (o :: rest) a w := by
  obtain ⟨D, hown, hd⟩ := hs
  refine wpList_range_own w hg m t hop kt e (int_keyed hq) ht heldR b M.length D hm hown ?_
  intro w' h1 h2 h3
  rw [hd.size] at h1
  refine hK w' ⟨D, _, h1, hd, fun k => hd.has k⟩ ?_ h3
  exact (Fr.refl _ _).grown h2 (fun _ _ e => by cases e)
theorem wpList_next_dict (hg : o.guard = none) (it : Operand) (hop : o.op = Op.next it false) (kt : TypeId) (q : IntKind) (hq : P.underlying kt = some (.int q)) (b r : Nat) (M : List (Int × Value)) (lf : Int → Bool) (cnt : Nat)
    (hit : a.eval it = .pointer (some ⟨r, 0, none⟩)) (h : RangeAt P kt q w b r M lf cnt)
    (hDone : (∀ k : Int, lf k = false) → wpList P ops Q rest (a.put o.dst (.tuple #[.bool false])) w)
    (hMore : ∀ (x : Int) (v : Value) (w' : World) (cnt' : Nat), (Lit.int q x).wf = true → lf x = true → getD M x = some v → RangeAt P kt q w' b r M (fun z => lf z && !decide (z = x)) cnt' → cnt' < cnt →
      Fr (fun j => j = r) w w' → w'.heap.size = w.heap.size → (Instr.entry (.pointer (some ⟨r, 0, none⟩))).run P w' = .ok (.tuple #[.int q x, v]) w' → wpList P ops Q rest (a.put o.dst (.tuple #[.bool true, .int q x, v])) w') :
    wpList P ops Q (o :: rest) a w := by
  obtain ⟨D, left, hr, hd, hl⟩ := h
  refine wpList_next_ranges w hg it hop kt (int_keyed hq) heldR (Value.int q) (fun v : Value => v) (fun key kl hkey => by obtain ⟨x, rfl, _⟩ := Maps.keyOf_int_inv hq hkey; exact ⟨x, rfl⟩) (fun v y _ => ⟨v, rfl⟩) b r M.length D left cnt hit hr
    (fun _ h0 => hDone fun k => (hl k).symm.trans (h0 _)) ?_
  intro x v kl y w' cnt' hkey hlk hv hat hrg hlt hgr hsz hen
  obtain ⟨x', ex, rfl, hwx⟩ := Maps.keyOf_int_inv hq hkey
  cases ex
  have hy : y = (.held v, []) := by unfold heldR at hv; injection hv with hv; exact hv.symm
  subst hy
  have hg1 : getD M x = some v := by
    have h1 := hat (.held v)
    have hh : (getD M x).isSome = true := by
      rw [← hd.has, has_true_of_atKey hat]
    obtain ⟨u, hu⟩ := Option.isSome_iff_exists.1 hh
    rw [hd.look, hu] at h1
    injection h1 with h1
    rw [hu, ← h1]
    rfl
  refine hMore x v w' cnt' hwx (by rw [← hl]; exact hlk) hg1 ⟨D, _, hrg, hd, fun k => ?_⟩ hlt ?_ hsz hen
  · show (left (.int q k) && !(Lit.int q k).sameKey (.int q x)) = _
    rw [hl]
    congr 1
    unfold Lit.sameKey
    by_cases e : k = x <;> simp [e]
  · exact (Fr.refl _ _).grown hgr (fun j _ e => by injection e with e; exact e.symm)
end

/-- Keys gathered: each once, just those that hold of p and have come. -/
def Got (M : List (Int × Value)) (p : Value → Bool) (lf : Int → Bool) (V : List Int) : Prop := V.Nodup ∧ ∀ x : Int, x ∈ V ↔ (∃ v, getD M x = some v ∧ p v = true) ∧ lf x = false
theorem Got.start (M : List (Int × Value)) (p : Value → Bool) : Got M p (fun k => (getD M k).isSome) [] := by
  refine ⟨List.nodup_nil, fun x => ?_⟩
  constructor
  · intro h; cases h
  · rintro ⟨⟨v, hv, _⟩, h⟩
    have h' : (getD M x).isSome = false := h
    rw [hv] at h'; cases h'
theorem Got.take {M : List (Int × Value)} {p : Value → Bool} {lf : Int → Bool} {V : List Int} (h : Got M p lf V) {x : Int} {v : Value} (hl : lf x = true) (hg : getD M x = some v) (hp : p v = true) : Got M p (fun z => lf z && !decide (z = x)) (V ++ [x]) := by
  refine ⟨List.nodup_append.2 ⟨h.1, by simp, fun a ha b hb => ?_⟩, fun y => ?_⟩
  · rw [List.mem_singleton.1 hb]
    rintro rfl
    rw [((h.2 a).1 ha).2] at hl
    cases hl
  · rw [List.mem_append, List.mem_singleton, h.2]
    by_cases e : y = x
    · subst e
      simp [hg, hp]
    · simp [e]
theorem Got.pass {M : List (Int × Value)} {p : Value → Bool} {lf : Int → Bool} {V : List Int} (h : Got M p lf V) {x : Int} {v : Value} (hg : getD M x = some v) (hp : p v = false) : Got M p (fun z => lf z && !decide (z = x)) V := by
  refine ⟨h.1, fun y => ?_⟩
  rw [h.2]
  by_cases e : y = x
  · subst e
    simp [hg, hp]
  · simp [e]
theorem Got.done {M : List (Int × Value)} {p : Value → Bool} {lf : Int → Bool} {V : List Int} (h : Got M p lf V) (h0 : ∀ k : Int, lf k = false) (hM : Once M) : V.Perm ((M.filter fun x => p x.2).map (·.1)) := by
  rw [List.perm_ext_iff_of_nodup h.1]
  · intro x
    rw [h.2]
    constructor
    · rintro ⟨⟨v, hv, hp⟩, _⟩
      exact List.mem_map.2 ⟨(x, v), List.mem_filter.2 ⟨getD_mem hv, hp⟩, rfl⟩
    · intro hx
      obtain ⟨⟨a, v⟩, hm, rfl⟩ := List.mem_map.1 hx
      obtain ⟨hm, hp⟩ := List.mem_filter.1 hm
      exact ⟨⟨v, getD_of_mem hM hm, hp⟩, h0 _⟩
  · have : Once (M.filter fun x => p x.2) := hM.sublist List.filter_sublist
    unfold Once at this
    exact List.pairwise_map.2 this
end Go.Proofs.Ytbgjajhnjkldkaa
