/- append onto a row of the law's own, whatever the source: words shared by the texts of this seat. -/
import Derived.Test.YteglklcaaicjjaaS
namespace Go.Proofs.Yteglklcaaicjjaa
open Go.RowKit Go.WideShapes

/-- The m elements of a slice are the cells xs, K each. -/
def Src (w : World) (K : Nat) (ao : Option Addr) (m : Nat) (xs : List Value) : Prop := xs.length = m * K ∧ ∀ j u, xs[j]? = some u → ∃ b o, ao = some ⟨b, o, none⟩ ∧ b < w.heap.size ∧ w.cell? ⟨b, o + j, none⟩ = some u
theorem Src.fr {T : Nat → Prop} {w w' : World} {K : Nat} {ao : Option Addr} {n : Nat} {xs : List Value} (h : Src w K ao n xs) (hf : Fr T w w') (ht : ∀ k, rowOf ao k → k < w.heap.size → ¬ T k) : Src w' K ao n xs := by
  refine ⟨h.1, fun j u hj => ?_⟩
  obtain ⟨b, o, rfl, hb, hc⟩ := h.2 j u hj
  exact ⟨b, o, rfl, Nat.lt_of_lt_of_le hb hf.size, (hf.cell (p := ⟨b, _, none⟩) hb (ht b ⟨_, rfl, rfl⟩ hb)).trans hc⟩
theorem Src.below {w w' : World} {K : Nat} {ao : Option Addr} {n : Nat} {xs : List Value} (h : Src w K ao n xs) {B : Nat} (hf : Below B w w') (hB : ∀ k, rowOf ao k → k < w.heap.size → k < B) : Src w' K ao n xs := by
  refine ⟨h.1, fun j u hj => ?_⟩
  obtain ⟨b, o, rfl, hb, hc⟩ := h.2 j u hj
  exact ⟨b, o, rfl, Nat.lt_of_lt_of_le hb hf.size, (hf.cell (p := ⟨b, _, none⟩) (hB b ⟨_, rfl, rfl⟩ hb)).trans hc⟩
theorem Row.src {B : Nat} {w : World} {e : TypeId} {K : Nat} {ao : Option Addr} {n cap : Nat} {xs : List Value} (h : Row B w e K ao n cap xs) : Src w K ao n xs := by
  refine ⟨h.len, fun j u hj => ?_⟩
  have hjl : j < n * K := by rw [← h.len]; exact (List.getElem?_eq_some_iff.1 hj).1
  have hn : 0 < n := by
    rcases Nat.eq_zero_or_pos n with h0 | h0
    · subst h0; rw [Nat.zero_mul] at hjl; omega
    · exact h0
  obtain ⟨g, rfl⟩ := h.form hn
  have hc := h.cell hjl
  rw [hj] at hc
  exact ⟨g, 0, rfl, World.block_lt_of_cell? w _ hc, by rw [Nat.zero_add]; exact hc⟩
/-- Elements from k on. -/
theorem Src.cut {w : World} {K : Nat} {ao : Option Addr} {n : Nat} {xs : List Value} (h : Src w K ao n xs) {k : Nat} {bo : Option Addr} (hb : k < n → ∀ b o, ao = some ⟨b, o, none⟩ → bo = some ⟨b, o + k * K, none⟩) : Src w K bo (n - k) (xs.drop (k * K)) := by
  refine ⟨by rw [List.length_drop, h.1, Nat.sub_mul], fun j u hj => ?_⟩
  rw [List.getElem?_drop] at hj
  have hjl := (List.getElem?_eq_some_iff.1 hj).1
  rw [h.1] at hjl
  have hkn : k < n := by
    rcases Nat.lt_or_ge k n with h1 | h1
    · exact h1
    · have := Nat.mul_le_mul_right K h1; omega
  obtain ⟨b, o, e, hbl, hc⟩ := h.2 _ u hj
  exact ⟨b, o + k * K, hb hkn b o e, hbl, by rw [Nat.add_assoc]; exact hc⟩
theorem Src.take {w : World} {K : Nat} {ao : Option Addr} {n : Nat} {xs : List Value} (h : Src w K ao n xs) {k : Nat} (hk : k ≤ n) : Src w K ao k (xs.take (k * K)) := by
  have hle := Nat.mul_le_mul_right K hk
  refine ⟨by rw [List.length_take, h.1]; omega, fun j u hj => ?_⟩
  rw [List.getElem?_take] at hj
  split at hj
  · exact h.2 j u hj
  · cases hj

section
variable {P : Program} (w : World)
theorem run_append_src (base : Nat) (t ty e : TypeId) (i : TypeInfo) (z : Value) (K bytes : Nat) (ht : P.underlying t = some (.slice e)) (hi : P.info? e = some i) (hz : i.zero = some z)
    (hsize : i.size = K) (hby : i.bytes = bytes) (hzs : z.cells.size = K) (hsz : 0 < K)
    (ao : Option Addr) (n cap : Nat) (xs : List Value) (hown : Row base w e K ao n cap xs) (bo : Option Addr) (m c : Nat) (news : List Value) (hs : Src w K bo m news) (h1 : ∀ u ∈ news, u.oneCell' = true)
    (h63 : n + m ≤ maxLen) (hbytes : (n + m) * bytes ≤ 140737488355328) (hbase : base ≤ w.heap.size) :
    ∃ ao' cap' w', (Builtin.append_ #[t, t] ty #[.slice ao n cap, .slice bo m c]).run P w = .ok (.slice ao' (n + m) cap') w' ∧ Row base w' e K ao' (n + m) cap' (xs ++ news) ∧ Fr (rowOf ao) w w' ∧ (∀ k, rowOf ao' k → rowOf ao k ∨ k = w.heap.size) := by
  have hnil : m = 0 → news = [] := fun h => List.eq_nil_of_length_eq_zero (by rw [hs.1, h, Nat.zero_mul])
  cases bo with
  | none =>
    have hm : m = 0 := by
      rcases Nat.eq_zero_or_pos m with h0 | h0
      · exact h0
      · have hp := Nat.mul_pos h0 hsz
        have hl := hs.1
        obtain ⟨b, o, e, _⟩ := hs.2 0 _ (List.getElem?_eq_getElem (by omega))
        cases e
    subst hm
    rw [hnil rfl, List.append_nil]
    refine ⟨ao, cap, w, ?_, hown, Fr.refl _ _, fun k hk => Or.inl hk⟩
    have hle := hown.le
    rcases hown.forms with rfl | ⟨g, rfl⟩
    · obtain ⟨rfl, rfl, _⟩ := hown.of_none
      simp [Builtin.append_, run_underlying ht, sizeOf, typeInfo, hi, Builtin.lenOf, Builtin.firstCells]
    · simp [Builtin.append_, run_underlying ht, sizeOf, typeInfo, hi, Builtin.lenOf, Builtin.firstCells, hle, storeCells]
  | some ad =>
    have hcells : ∀ j u, news[j]? = some u → w.cell? (ad.add j) = some u := by
      intro j u hj
      obtain ⟨b, o, e, _, hc⟩ := hs.2 j u hj
      injection e with e
      subst e
      rw [add_plain]
      exact hc
    obtain ⟨v', w', hrun, h2, h3, _, h5⟩ := run_append_own_at (P := P) w base t ty e i z K bytes ht hi hz hsize hby hzs hsz (.slice ao n cap) n xs hown ad m c news hs.1 hcells h1 h63 hbytes hbase
    have hfr : Fr (rowOf ao) w w' := (Fr.refl _ w).grown h3 (fun k _ hk => by
      cases ao with
      | none => cases hk
      | some a => injection hk with hk; exact ⟨a, rfl, hk.symm⟩)
    have hlies : ∀ ao' n' c', v' = .slice ao' n' c' → ∀ k, rowOf ao' k → rowOf ao k ∨ k = w.heap.size := by
      rintro ao' n' c' rfl k ⟨a, rfl, rfl⟩
      rcases h5 with h5 | h5
      · cases ao with
        | none => cases h5
        | some a' => injection h5 with h5; exact Or.inl ⟨a', rfl, h5⟩
      · injection h5 with h5; exact Or.inr h5
    rcases h2.2 with ⟨rfl, h0⟩ | ⟨g, cap', cur, rfl, _⟩
    · refine ⟨none, 0, w', ?_, ?_, hfr, fun k ⟨a, ha, _⟩ => by cases ha⟩
      · rw [hrun, h0]
      · show w'.ownsRow base e K (.slice none (n + m) 0) (n + m) _
        rw [h0] at h2 ⊢
        exact h2
    · exact ⟨_, cap', w', hrun, h2, hfr, hlies _ _ _ rfl⟩
theorem wp_append_src {o : Oper} {a : Act} {K' : Act → World → Prop} {Q : Exit → Act → World → Prop} (s x : Operand) (t : TypeId) (ho : o.op = .call { callee := .builtin .append, args := #[s, x], argTypes := #[t, t] })
    (base : Nat) (e : TypeId) (i : TypeInfo) (z : Value) (K bytes : Nat) (ht : P.underlying t = some (.slice e)) (hi : P.info? e = some i) (hz : i.zero = some z)
    (hsize : i.size = K) (hby : i.bytes = bytes) (hzs : z.cells.size = K) (hsz : 0 < K)
    (ao : Option Addr) (n cap : Nat) (xs : List Value) (hs : a.eval s = .slice ao n cap) (hown : Row base w e K ao n cap xs) (bo : Option Addr) (m c : Nat) (news : List Value) (hx : a.eval x = .slice bo m c) (hsrc : Src w K bo m news) (h1 : ∀ u ∈ news, u.oneCell' = true)
    (h63 : n + m ≤ maxLen) (hbytes : (n + m) * bytes ≤ 140737488355328) (hbase : base ≤ w.heap.size)
    (h : ∀ ao' cap' w', Row base w' e K ao' (n + m) cap' (xs ++ news) → Fr (rowOf ao) w w' → (∀ k, rowOf ao' k → rowOf ao k ∨ k = w.heap.size) → K' (a.put o.dst (.slice ao' (n + m) cap')) w') : o.wp P a w K' Q := by
  obtain ⟨ao', cap', w', hrun, h2, h3, h4⟩ := run_append_src (P := P) w base t o.type e i z K bytes ht hi hz hsize hby hzs hsz ao n cap xs hown bo m c news hsrc h1 h63 hbytes hbase
  unfold Oper.wp execOp
  simp only [ho, resolve, invoke, builtin, Sem.run_bind, Sem.run_pure, Result.andThen_ok, List.map_toArray, List.map_cons, List.map_nil, hs, hx, hrun]
  exact h ao' cap' w' h2 h3 h4
theorem wpList_append_src {ops : Array Oper} {rest : List Oper} {o : Oper} {a : Act} {Q : Exit → Act → World → Prop} (hgd : o.guard = none) (s x : Operand) (t : TypeId) (ho : o.op = .call { callee := .builtin .append, args := #[s, x], argTypes := #[t, t] })
    (base : Nat) (e : TypeId) (i : TypeInfo) (z : Value) (K bytes : Nat) (ht : P.underlying t = some (.slice e)) (hi : P.info? e = some i) (hz : i.zero = some z)
    (hsize : i.size = K) (hby : i.bytes = bytes) (hzs : z.cells.size = K) (hsz : 0 < K)
    (ao : Option Addr) (n cap : Nat) (xs : List Value) (hs : a.eval s = .slice ao n cap) (hown : Row base w e K ao n cap xs) (bo : Option Addr) (m c : Nat) (news : List Value) (hx : a.eval x = .slice bo m c) (hsrc : Src w K bo m news) (h1 : ∀ u ∈ news, u.oneCell' = true)
    (h63 : n + m ≤ maxLen) (hbytes : (n + m) * bytes ≤ 140737488355328) (hbase : base ≤ w.heap.size)
    (h : ∀ ao' cap' w', Row base w' e K ao' (n + m) cap' (xs ++ news) → Fr (rowOf ao) w w' → (∀ k, rowOf ao' k → rowOf ao k ∨ k = w.heap.size) → wpList P ops Q rest (a.put o.dst (.slice ao' (n + m) cap')) w') : wpList P ops Q (o :: rest) a w :=
  wpList_plain hgd fun _ hK => wp_append_src w s x t ho base e i z K bytes ht hi hz hsize hby hzs hsz ao n cap xs hs hown bo m c news hx hsrc h1 h63 hbytes hbase fun ao' cap' w' h2 h3 h4 => hK _ _ (h ao' cap' w' h2 h3 h4)
theorem step_append_src {ops : Array Oper} {o : Oper} {a : Act} {K' : Act → World → Prop} {Q : Exit → Act → World → Prop} {E : Prop} (hgd : o.guard = none) (s x : Operand) (t : TypeId) (ho : o.op = .call { callee := .builtin .append, args := #[s, x], argTypes := #[t, t] })
    (base : Nat) (e : TypeId) (i : TypeInfo) (z : Value) (K bytes : Nat) (ht : P.underlying t = some (.slice e)) (hi : P.info? e = some i) (hz : i.zero = some z)
    (hsize : i.size = K) (hby : i.bytes = bytes) (hzs : z.cells.size = K) (hsz : 0 < K)
    (ao : Option Addr) (n cap : Nat) (xs : List Value) (hs : a.eval s = .slice ao n cap) (hown : Row base w e K ao n cap xs) (bo : Option Addr) (m c : Nat) (news : List Value) (hx : a.eval x = .slice bo m c) (hsrc : Src w K bo m news) (h1 : ∀ u ∈ news, u.oneCell' = true)
    (h63 : n + m ≤ maxLen) (hbytes : (n + m) * bytes ≤ 140737488355328) (hbase : base ≤ w.heap.size)
    (h : ∀ ao' cap' w', Row base w' e K ao' (n + m) cap' (xs ++ news) → Fr (rowOf ao) w w' → (∀ k, rowOf ao' k → rowOf ao k ∨ k = w.heap.size) → K' (a.put o.dst (.slice ao' (n + m) cap')) w') :
    if Region.wanted o (yielded ops a.tmps) = true then Oper.wp P o a w K' Q else E := by
  have hw : Region.wanted o (yielded ops a.tmps) = true := by simp [Region.wanted, hgd]
  rw [if_pos hw]
  exact wp_append_src w s x t ho base e i z K bytes ht hi hz hsize hby hzs hsz ao n cap xs hs hown bo m c news hx hsrc h1 h63 hbytes hbase h
end
end Go.Proofs.Yteglklcaaicjjaa
