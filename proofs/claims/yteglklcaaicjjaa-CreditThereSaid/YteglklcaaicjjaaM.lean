/- A map of numbers to true, told as the rising list of its keys: its laws, at the operations. -/
import Derived.Test.YteglklcaaicjjaaF
namespace Go.Proofs.Yteglklcaaicjjaa
open Go.RowKit Go.Maps

theorem law29 : Keyed Try.prog 29 := int_keyed Try.underlying29
theorem zero4 (w : World) : (zeroValue 4).run Try.prog w = .ok (.bool false) w := by kernel_rfl

/-- The key of a number. -/
def kl (k : Nat) : Lit := .int .u64 (k : Int)
theorem kl_key (k : Nat) : WideAt.IsKeyLit (kl k) := trivial
theorem kl_inj {a b : Nat} (h : kl a = kl b) : a = b := by
  unfold kl at h
  injection h with _ h
  omega
theorem kl_ne {a b : Nat} (h : a ≠ b) : kl a ≠ kl b := fun e => h (kl_inj e)
theorem kl_wf {k : Nat} (h : k < 18446744073709551616) : (kl k).wf = true := by
  unfold kl
  simp [Lit.wf, IntKind.min, IntKind.max, IntKind.signed, IntKind.bits]
  omega

/-- THE DATUM D IS THE SET S. -/
structure IsSet (D : DataW Unit) (S : List Nat) : Prop where
  tidy : Tidy D
  has : ∀ k : Nat, Maps.has D (kl k) = decide (k ∈ S)
  size : Maps.size D = S.length
  all : ∀ k : Nat, k ∈ S → ∀ z, D.atKey (kl k) z = .lit (.bool true)

theorem IsSet.empty : IsSet (.map []) [] := ⟨tidy_empty, fun k => rfl, rfl, fun k h => by cases h⟩
theorem IsSet.put {D : DataW Unit} {S : List Nat} (h : IsSet D S) {k : Nat} (hk : k ∉ S) : IsSet (D.put (kl k) (.lit (.bool true))) (S ++ [k]) := by
  refine ⟨h.tidy.put (kl_key k) _, fun j => ?_, ?_, fun j hj z => ?_⟩
  · by_cases e : j = k
    · subst e
      rw [has_put_same h.tidy.isMap (kl_key j)]
      simp
    · rw [has_put_other (kl_ne e), h.has]
      simp [e]
  · rw [size_put h.tidy, h.has, h.size]
    simp [hk]
  · by_cases e : j = k
    · subst e
      rw [atKey_put_same h.tidy.isMap (kl_key j)]
    · rw [atKey_put_other (kl_ne e)]
      exact h.all j (by simpa [e] using hj) z
/-- S without k. -/
def dropK (S : List Nat) (k : Nat) : List Nat := S.filter (fun x => decide (x ≠ k))

theorem length_ne_filter (S : List Nat) (hS : S.Pairwise (· < ·)) {k : Nat} (hk : k ∈ S) : (S.filter (fun x => decide (x ≠ k))).length + 1 = S.length := by
  induction S with
  | nil => cases hk
  | cons a S ih =>
    obtain ⟨h1, h2⟩ := List.pairwise_cons.1 hS
    by_cases e : a = k
    · subst e
      have : S.filter (fun x => decide (x ≠ a)) = S := List.filter_eq_self.2 (fun x hx => by have := h1 x hx; simp; omega)
      rw [List.filter_cons, if_neg (by simp), this]
      simp
    · have hk' : k ∈ S := by
        rcases List.mem_cons.1 hk with h | h
        · exact absurd h.symm e
        · exact h
      have := ih h2 hk'
      rw [List.filter_cons, if_pos (by simpa using e)]
      simp only [List.length_cons]
      omega
theorem IsSet.del {D : DataW Unit} {S : List Nat} (h : IsSet D S) (hS : S.Pairwise (· < ·)) {k : Nat} (hk : k ∈ S) : IsSet (D.del (kl k)) (S.filter (fun x => decide (x ≠ k))) := by
  refine ⟨h.tidy.del _, fun j => ?_, ?_, fun j hj z => ?_⟩
  · by_cases e : j = k
    · subst e
      rw [has_del_same]
      simp
    · rw [has_del_other (kl_ne e), h.has]
      simp [e]
  · have h1 := size_del (k := kl k) h.tidy
    have h2 := length_ne_filter S hS hk
    rw [h.has, h.size] at h1
    simp [hk] at h1
    omega
  · have hj' := List.mem_filter.1 hj
    have e : j ≠ k := by simpa using hj'.2
    rw [atKey_del_other (kl_ne e)]
    exact h.all j hj'.1 z

theorem plainElem_bool_inv {H : Type} {P : Program} {e : TypeId} (he : P.underlying e = some .bool) {v : Value} {z : DataW H × List MemPlace} (h : plainElem P e v = some z) : ∃ c, v = .bool c ∧ z = (.lit (.bool c), []) := by
  unfold plainElem at h
  rw [he] at h
  cases v <;> simp at h
  exact ⟨_, rfl, h.symm⟩

/-- Block b of w is a map that is the set S. -/
def SetAt (w : World) (b : Nat) (S : List Nat) : Prop := ∃ D : DataW Unit, w.ownsMap Try.prog 29 (plainElem Try.prog 4) b S.length D ∧ IsSet D S

theorem ownsMap_size {H : Type} {w : World} {P : Program} {k : TypeId} {R : Value → Option (DataW H × List MemPlace)} {b n : Nat} {D : DataW H} (h : w.ownsMap P k R b n D) : w.ownsMap P k R b (Maps.size D) D := by
  obtain ⟨es, ck, hb, F, hs, rfl⟩ := h
  refine ⟨es, ck, hb, F, ?_, rfl⟩
  simp [Maps.size, length_sorted]

section
variable {w w' : World} {b : Nat} {S : List Nat}
theorem SetAt.lt (h : SetAt w b S) : b < w.heap.size := by obtain ⟨D, h, _⟩ := h; exact h.lt
theorem SetAt.isMap (h : SetAt w b S) : ∃ es ck, w.heap[b]? = some (.map es ck) ∧ es.size = S.length := by
  obtain ⟨D, ⟨es, ck, hb, F, hs, rfl⟩, hS⟩ := h
  refine ⟨es, ck, hb, ?_⟩
  have := hS.size
  simpa [Maps.size, length_sorted] using this
theorem SetAt.of_block (h : SetAt w b S) (e : w'.heap[b]? = w.heap[b]?) : SetAt w' b S := by
  obtain ⟨D, ⟨es, ck, hb, r⟩, hS⟩ := h
  exact ⟨D, ⟨es, ck, e.trans hb, r⟩, hS⟩
theorem SetAt.fr {T : Nat → Prop} (h : SetAt w b S) (hf : Fr T w w') (hb : ¬ T b) : SetAt w' b S := h.of_block (hf.block b h.lt hb)
theorem SetAt.drew (h : SetAt w b S) : SetAt w.drew b S := h
theorem SetAt.drewN (h : SetAt w b S) (n : Nat) : SetAt (w.drewN n) b S := h
theorem SetAt.alloc (h : SetAt w b S) (o : Obj) : SetAt (w.alloc o) b S := h.of_block (Below.heap_alloc w o b h.lt)
theorem SetAt.setCell (h : SetAt w b S) {p : Addr} (hp : b ≠ p.block) (u : Value) : SetAt (w.setCell p u) b S := h.of_block (Below.heap_setCell w p u b hp)
end

/-! ### at the operations -/
section
variable (w : World) {ops : Array Oper} {rest : List Oper} {o : Oper} {a : Act} {Q : Exit → Act → World → Prop}
theorem wpList_lookup_set (hg : o.guard = none) (m x : Operand) (hop : o.op = Op.lookup 47 m x false) (b : Nat) (S : List Nat)
    (hm : a.eval m = .map (some b)) (hs : SetAt w b S) (q : Int) (hx : a.eval x = .int .u64 q) (k : Nat) (hq : q = (k : Int)) (hk : k < 18446744073709551616)
    (hK : wpList Try.prog ops Q rest (a.put o.dst (.bool (decide (k ∈ S)))) w) : wpList Try.prog ops Q (o :: rest) a w := by
  subst hq
  obtain ⟨D, hown, hS⟩ := hs
  refine wpList_plain hg fun K' hK' => ?_
  obtain ⟨v, ps, hrun, hv⟩ := hown.lookup law29 Try.underlying47 (zero4 w) (plainElem_bool Try.underlying4 false) (keyOf_int_mk Try.underlying29 (kl_wf hk))
  obtain ⟨c, rfl, hc⟩ := plainElem_bool_inv Try.underlying4 hv
  have hc2 : D.atKey (kl k) (.lit (.bool false)) = .lit (.bool c) := congrArg Prod.fst hc
  have hc' : c = decide (k ∈ S) := by
    by_cases h : k ∈ S
    · have := hS.all k h (.lit (.bool false))
      rw [hc2] at this
      simp [h]
      injection this with this
      injection this
    · have := atKey_of_not_has (D := D) (k := kl k) (by rw [hS.has]; simp [h]) (.lit (.bool false))
      rw [hc2] at this
      simp [h]
      injection this with this
      injection this
  subst hc'
  unfold Oper.wp
  simp [execOp, hop, hm, hx, hrun, Result.andThen]
  exact hK' _ _ (by simpa using hK)

theorem set_put_run (t : World) (b : Nat) (S : List Nat) (hs : SetAt t b S) (k : Nat) (hk : k < 18446744073709551616) (hn : k ∉ S) (hl : S.length < 1000000) :
    ∃ w', (Instr.mapUpdate 47 (.map (some b)) (.int .u64 (k : Int)) (.bool true)).run Try.prog t = .ok () w' ∧ SetAt w' b (S ++ [k]) ∧ Fr (fun j => j = b) t w' := by
  obtain ⟨D, hown, hS⟩ := hs
  obtain ⟨w', hrun, h1, h2⟩ := hown.update law29 Try.underlying47 (by unfold maxLen; omega) (keyOf_int_mk Try.underlying29 (kl_wf hk)) (plainElem_bool Try.underlying4 true)
  refine ⟨w', hrun, ⟨_, by rw [List.length_append]; exact h1, hS.put hn⟩, (Fr.refl _ _).grown h2 (fun j _ e => by injection e with e; exact e.symm)⟩

theorem wpList_update_set (hg : o.guard = none) (m x v : Operand) (hop : o.op = Op.mapUpdate 47 m x v ∨ o.op = Op.insert 47 m x v) (b : Nat) (S : List Nat)
    (hm : a.eval m = .map (some b)) (hs : SetAt w b S) (q : Int) (hx : a.eval x = .int .u64 q) (k : Nat) (hq : q = (k : Int)) (hv : a.eval v = .bool true) (hk : k < 18446744073709551616) (hn : k ∉ S) (hl : S.length < 1000000)
    (hK : ∀ w', SetAt w' b (S ++ [k]) → Fr (fun j => j = b) w w' → wpList Try.prog ops Q rest (a.put o.dst undef) w') : wpList Try.prog ops Q (o :: rest) a w := by
  subst hq
  refine wpList_plain hg fun K' hK' => ?_
  obtain ⟨w', hrun, r1, r2⟩ := set_put_run w b S hs k hk hn hl
  unfold Oper.wp
  rcases hop with hop | hop
  · simp [execOp, hop, hm, hx, hv, hrun, Result.andThen]
    exact hK' _ _ (hK w' r1 r2)
  · simp [execOp, hop, hm, hx, hv, hrun, Result.andThen]
    exact hK' _ _ (hK w' r1 r2)

theorem wpList_delete_set (hg : o.guard = none) (m x : Operand) (hop : o.op = Op.call { callee := Callee.builtin Builtin.delete, args := #[m, x], argTypes := #[47, 29] }) (b : Nat) (S : List Nat)
    (hm : a.eval m = .map (some b)) (hs : SetAt w b S) (q : Int) (hx : a.eval x = .int .u64 q) (k : Nat) (hq : q = (k : Int)) (hk : k < 18446744073709551616) (hn : k ∈ S) (hp : S.Pairwise (· < ·))
    (hK : ∀ w', SetAt w' b (dropK S k) → Fr (fun j => j = b) w w' → wpList Try.prog ops Q rest (a.put o.dst (.tuple #[])) w') : wpList Try.prog ops Q (o :: rest) a w := by
  subst hq
  obtain ⟨D, hown, hS⟩ := hs
  refine wpList_plain hg fun K' hK' => ?_
  obtain ⟨w', hrun, r1, r2⟩ := hown.drop law29 Try.underlying47 (keyOf_int_mk Try.underlying29 (kl_wf hk)) o.type
  have r3 : SetAt w' b (dropK S k) := by
    have h2 := hS.del hp hn
    refine ⟨_, ?_, h2⟩
    have := ownsMap_size r1
    rw [show Maps.size (D.del (.int .u64 (k : Int))) = _ from h2.size] at this
    exact this
  unfold Oper.wp
  simp [execOp, hop, resolve, invoke, builtin, hm, hx, hrun, Result.andThen]
  exact hK' _ _ (hK w' r3 ((Fr.refl _ _).grown r2.grown (fun j _ e => by injection e with e; exact e.symm)))

theorem wpList_len_set (hg : o.guard = none) (m : Operand) (hop : o.op = Op.call { callee := Callee.builtin Builtin.len, args := #[m], argTypes := #[47] }) (b : Nat) (S : List Nat)
    (hm : a.eval m = .map (some b)) (hs : SetAt w b S) (hK : wpList Try.prog ops Q rest (a.put o.dst (.int .i64 (S.length : Int))) w) : wpList Try.prog ops Q (o :: rest) a w := by
  obtain ⟨D, hown, hS⟩ := hs
  refine wpList_len_own w hg m 47 hop 29 4 Try.underlying47 _ b _ D hm hown ?_
  rw [hS.size]
  exact hK
end

/-- 'len(m)' in a region that draws its order and only reads. -/
theorem quiet_len_set {o : Oper} {a : Act} {C : World → Prop} {K : Act → Prop} (m : Operand) (hop : o.op = Op.call { callee := Callee.builtin Builtin.len, args := #[m], argTypes := #[47] }) (b : Nat) (S : List Nat)
    (hm : a.eval m = .map (some b)) (hs : ∀ w, C w → SetAt w b S) (hK : K (a.put o.dst (.int .i64 (S.length : Int)))) : o.quiet Try.prog a C K := by
  refine ⟨_, fun w hw => ?_, hK⟩
  obtain ⟨D, hown, hS⟩ := hs w hw
  have hrun := hown.len Try.underlying47 o.type
  rw [hS.size] at hrun
  unfold Oper.quietAt
  simp [execOp, hop, resolve, invoke, builtin, hm, hrun, Result.andThen, Oper.quietUpon]
end Go.Proofs.Yteglklcaaicjjaa
