/- Frames by the blocks' types, rows of a slice that the law itself has made, append and copy on them: words shared by the texts of this seat. -/
import Derived.Test.YteglklcaaicjjaaF
import Derived.Laws.CopyOwn
import Derived.Laws.OwnMore
namespace Go.Proofs.Yteglklcaaicjjaa
open Go.ChangeShapes Go.WideShapes Go.ChangeAt Go.RowKit Go.Deep

/-! ### frames by type -/

/-- What an object is: cells of a type, or none such. -/
def tagOf : Obj → Option TypeId
  | .cells _ t _ => some t
  | _ => none
/-- The blocks from B on that are of one of the types. -/
def TT (B : Nat) (ts : List (Option TypeId)) (w : World) : Nat → Prop := fun k => B ≤ k ∧ ∃ o, w.heap[k]? = some o ∧ tagOf o ∈ ts
/-- w' is w but for new blocks, draws, and blocks from B on of the types. -/
def Fy (B : Nat) (ts : List (Option TypeId)) (w w' : World) : Prop := Fr (TT B ts w) w w'
section
variable {B : Nat} {ts ts' : List (Option TypeId)} {w w' w'' : World}
theorem Fy.refl (B : Nat) (ts : List (Option TypeId)) (w : World) : Fy B ts w w := Fr.refl _ _
theorem Fy.trans (h : Fy B ts w w') (h' : Fy B ts w' w'') : Fy B ts w w'' := by
  refine ⟨h'.os.trans h.os, h'.tape.trans h.tape, h'.output.trans h.output, Nat.le_trans h.size h'.size, fun k hk hn => ?_⟩
  have h1 := h.block k hk hn
  refine (h'.block k (Nat.lt_of_lt_of_le hk h.size) (fun ⟨hB, o, ho, ht⟩ => hn ⟨hB, o, h1 ▸ ho, ht⟩)).trans h1
theorem Fy.mono (h : Fy B ts w w') (ht : ∀ t, t ∈ ts → t ∈ ts') : Fy B ts' w w' := Fr.mono h fun _ _ ⟨hB, o, ho, hm⟩ => ⟨hB, o, ho, ht _ hm⟩
theorem Fy.below (h : Fy B ts w w') (hB : B ≤ w.heap.size) : Below B w w' := Fr.below h hB fun _ ht => ht.1
theorem Fy.of_below (h : Below w.heap.size w w') : Fy B ts w w' := Fr.of_below h
theorem Fy.size (h : Fy B ts w w') : w.heap.size ≤ w'.heap.size := Fr.size h
theorem Fy.of_fr {T : Nat → Prop} (h : Fr T w w') (ht : ∀ k, k < w.heap.size → T k → B ≤ k ∧ ∃ o, w.heap[k]? = some o ∧ tagOf o ∈ ts) : Fy B ts w w' := Fr.mono h ht
theorem Blk.fy {g : Nat} {t : TypeId} {cs : Array Value} (h : Blk w g t cs) (hf : Fy B ts w w') (ht : some t ∉ ts) : Blk w' g t cs :=
  h.fr hf fun ⟨_, o, ho, hm⟩ => by
    unfold Blk at h
    rw [h] at ho
    injection ho with ho
    subst ho
    exact ht hm
end

/-! ### a row of its own -/

/-- The slice (ao, n, cap) is nil and empty, or a row from block B on that holds xs (n elements of K cells each). -/
def Row (B : Nat) (w : World) (e : TypeId) (K : Nat) (ao : Option Addr) (n cap : Nat) (xs : List Value) : Prop := w.ownsRow B e K (.slice ao n cap) n xs
/-- The row's block. -/
def rowOf (ao : Option Addr) : Nat → Prop := fun k => ∃ a, ao = some a ∧ k = a.block
section
variable {B B' : Nat} {w w' : World} {e : TypeId} {K n cap : Nat} {ao : Option Addr} {xs : List Value}
theorem Row.len (h : Row B w e K ao n cap xs) : xs.length = n * K := h.1
theorem Row.le (h : Row B w e K ao n cap xs) : n ≤ cap := by
  rcases h.2 with ⟨h, _⟩ | ⟨g, cap', cur, h, _, _, hn, _⟩
  · injection h with _ h2 h3; omega
  · injection h with _ _ h3; omega
theorem Row.capmax (h : Row B w e K ao n cap xs) : cap ≤ maxLen := by
  rcases h.2 with ⟨h, _⟩ | ⟨g, cap', cur, h, _, _, hn, hm, _⟩
  · injection h with _ _ h3; subst h3; exact Nat.zero_le _
  · injection h with _ _ h3; subst h3; exact hm
theorem Row.nil (B : Nat) (w : World) (e : TypeId) (K : Nat) : Row B w e K none 0 0 [] := World.ownsRow_nil w B e K
theorem Row.of_none (h : Row B w e K none n cap xs) : n = 0 ∧ cap = 0 ∧ xs = [] := by
  rcases h.2 with ⟨h1, h2⟩ | ⟨g, cap', cur, h1, _⟩
  · injection h1 with _ _ h3
    refine ⟨h2, h3, List.eq_nil_of_length_eq_zero (by rw [h.1, h2]; omega)⟩
  · injection h1 with h1; cases h1
theorem Row.form (h : Row B w e K ao n cap xs) (hn : 0 < n) : ∃ g, ao = some ⟨g, 0, none⟩ := by
  rcases h.2 with ⟨_, h2⟩ | ⟨g, cap', cur, h1, _⟩
  · omega
  · injection h1 with h1; exact ⟨g, h1⟩
theorem Row.forms (h : Row B w e K ao n cap xs) : ao = none ∨ ∃ g, ao = some ⟨g, 0, none⟩ := by
  rcases h.2 with ⟨h1, _⟩ | ⟨g, cap', cur, h1, _⟩
  · injection h1 with h1; exact Or.inl h1
  · injection h1 with h1; exact Or.inr ⟨g, h1⟩
theorem Row.block {a : Addr} (h : Row B w e K (some a) n cap xs) : B ≤ a.block ∧ ∃ cur, Blk w a.block e cur ∧ cur.size = cap * K ∧ cur.toList.take (n * K) = xs := by
  rcases h.2 with ⟨h1, _⟩ | ⟨g, cap', cur, h1, h2, h3, h4, h5, h6, h7⟩
  · cases h1
  · injection h1 with h1 _ h8
    injection h1 with h1
    subst h1 h8
    exact ⟨h2, cur, h3, h6, h7⟩
theorem Row.lt {a : Addr} (h : Row B w e K (some a) n cap xs) : a.block < w.heap.size := by
  obtain ⟨_, cur, h1, _⟩ := h.block
  exact h1.lt
theorem Row.cell {g : Nat} (h : Row B w e K (some ⟨g, 0, none⟩) n cap xs) {j : Nat} (hj : j < n * K) : w.cell? ⟨g, j, none⟩ = xs[j]? := World.ownsRow.cellAt h j hj
theorem Row.frozen {g : Nat} (h : Row B w e K (some ⟨g, 0, none⟩) n cap xs) (j : Nat) : w.frozen? ⟨g, j, none⟩ = false := World.ownsRow.frozenAt h j
theorem Row.base (h : Row B w e K ao n cap xs) (hB : B' ≤ B) : Row B' w e K ao n cap xs := by
  refine ⟨h.1, ?_⟩
  rcases h.2 with h2 | ⟨g, cap', cur, h1, h2, r⟩
  · exact Or.inl h2
  · exact Or.inr ⟨g, cap', cur, h1, Nat.le_trans hB h2, r⟩
theorem Row.fr {T : Nat → Prop} (h : Row B w e K ao n cap xs) (hf : Fr T w w') (ht : ∀ k, rowOf ao k → ¬ T k) : Row B w' e K ao n cap xs := by
  refine ⟨h.1, ?_⟩
  rcases h.2 with h2 | ⟨g, cap', cur, h1, h2, h3, r⟩
  · exact Or.inl h2
  · refine Or.inr ⟨g, cap', cur, h1, h2, ?_, r⟩
    injection h1 with h1
    exact Blk.fr (w := w) h3 hf (ht g ⟨_, h1, rfl⟩)
theorem Row.fy {C : Nat} {ts : List (Option TypeId)} (h : Row B w e K ao n cap xs) (hf : Fy C ts w w') (ht : some e ∉ ts) : Row B w' e K ao n cap xs := by
  refine ⟨h.1, ?_⟩
  rcases h.2 with h2 | ⟨g, cap', cur, h1, h2, h3, r⟩
  · exact Or.inl h2
  · exact Or.inr ⟨g, cap', cur, h1, h2, Blk.fy (w := w) h3 hf ht, r⟩
theorem Row.drew (h : Row B w e K ao n cap xs) : Row B w.drew e K ao n cap xs := h
theorem Row.drewN (h : Row B w e K ao n cap xs) (m : Nat) : Row B (w.drewN m) e K ao n cap xs := h
theorem Row.tag (h : Row B w e K ao n cap xs) : ∀ k, k < w.heap.size → rowOf ao k → B ≤ k ∧ ∃ o, w.heap[k]? = some o ∧ tagOf o = some e := by
  rintro k _ ⟨a, rfl, rfl⟩
  obtain ⟨h1, cur, h2, _⟩ := h.block
  exact ⟨h1, _, h2, rfl⟩
/-- Element j of the row is stored. -/
theorem Row.stored {g : Nat} (h : Row B w e K (some ⟨g, 0, none⟩) n cap xs) (j : Nat) (u : Value) : Row B (w.setCell ⟨g, j, none⟩ u) e K (some ⟨g, 0, none⟩) n cap (xs.set j u) := (World.ownsRow.stored h j u).1
/-- The row is cut shorter: s = s[:m]. -/
theorem Row.cut (h : Row B w e K ao n cap xs) {m : Nat} (hm : m ≤ n) (ha : ao ≠ none) : Row B w e K ao m cap (xs.take (m * K)) := by
  have hle : m * K ≤ n * K := Nat.mul_le_mul_right _ hm
  refine ⟨by rw [List.length_take, h.1]; omega, ?_⟩
  rcases h.2 with ⟨h1, _⟩ | ⟨g, cap', cur, h1, h2, h3, h4, h5, h6, h7⟩
  · injection h1 with h1; exact absurd h1 ha
  · injection h1 with h1 _ h8
    subst h1 h8
    refine Or.inr ⟨g, _, cur, rfl, h2, h3, by omega, h5, h6, ?_⟩
    rw [← h7, List.take_take, Nat.min_eq_left hle]
end

/-! ### append -/
theorem wp_append_row {P : Program} {w : World} {o : Oper} {a : Act} {K' : Act → World → Prop} {Q : Exit → Act → World → Prop} (s x : Operand) (t : TypeId)
    (ho : o.op = .call { callee := .builtin .append, args := #[s, x], argTypes := #[t, t] })
    (e : TypeId) (i : TypeInfo) (z : Value) (K bytes : Nat) (ht : P.underlying t = some (.slice e)) (hi : P.info? e = some i) (hz : i.zero = some z)
    (hsize : i.size = K) (hby : i.bytes = bytes) (hzs : z.cells.size = K) (hsz : 0 < K) (hb32 : bytes ≤ 4096)
    (B : Nat) (ao : Option Addr) (n cap : Nat) (xs : List Value) (hs : a.eval s = .slice ao n cap) (hown : Row B w e K ao n cap xs)
    (b off m c : Nat) (news : List Value) (hx : a.eval x = .slice (some ⟨b, off, none⟩) m c) (hl : news.length = m * K) (hnews : ∀ j u, news[j]? = some u → w.cell? ⟨b, off + j, none⟩ = some u) (h1 : ∀ u ∈ news, u.oneCell' = true)
    (hsm : n + m ≤ 1073741824) (hbase : B ≤ w.heap.size)
    (h : ∀ ao' cap' w', Row B w' e K ao' (n + m) cap' (xs ++ news) → Fr (rowOf ao) w w' → (0 < n + m → ao' ≠ none) → K' (a.put o.dst (.slice ao' (n + m) cap')) w') : o.wp P a w K' Q := by
  refine wp_append_own w s x t ho B e i z K bytes ht hi hz hsize hby hzs hsz (.slice ao n cap) n xs hs hown ⟨b, off, none⟩ m c news hx hl ?_ h1 (by unfold maxLen; omega) ?_ hbase ?_
  · intro j u hj
    have := hnews j u hj
    rw [add_plain]
    exact this
  · exact Nat.le_trans (Nat.mul_le_mul hsm hb32) (by decide)
  · intro v' w' hr hg hnil
    have hr2 := hr.2
    have hfr : Fr (rowOf ao) w w' := (Fr.refl _ w).grown hg (fun k _ hk => by
      cases ao with
      | none => cases hk
      | some ad => injection hk with hk; exact ⟨ad, rfl, hk.symm⟩)
    rcases hr2 with ⟨rfl, h0⟩ | ⟨g, cap', cur, rfl, _⟩
    · have hn0 : n = 0 := by omega
      have hm0 : m = 0 := by omega
      subst hn0 hm0
      exact h none 0 w' hr hfr (fun h => absurd h (Nat.lt_irrefl _))
    · exact h (some ⟨g, 0, none⟩) cap' w' hr hfr (fun _ => by simp)
theorem wpList_append_row {P : Program} {w : World} {ops : Array Oper} {rest : List Oper} {o : Oper} {a : Act} {Q : Exit → Act → World → Prop} (hgd : o.guard = none) (s x : Operand) (t : TypeId)
    (ho : o.op = .call { callee := .builtin .append, args := #[s, x], argTypes := #[t, t] })
    (e : TypeId) (i : TypeInfo) (z : Value) (K bytes : Nat) (ht : P.underlying t = some (.slice e)) (hi : P.info? e = some i) (hz : i.zero = some z)
    (hsize : i.size = K) (hby : i.bytes = bytes) (hzs : z.cells.size = K) (hsz : 0 < K) (hb32 : bytes ≤ 4096)
    (B : Nat) (ao : Option Addr) (n cap : Nat) (xs : List Value) (hs : a.eval s = .slice ao n cap) (hown : Row B w e K ao n cap xs)
    (b off m c : Nat) (news : List Value) (hx : a.eval x = .slice (some ⟨b, off, none⟩) m c) (hl : news.length = m * K) (hnews : ∀ j u, news[j]? = some u → w.cell? ⟨b, off + j, none⟩ = some u) (h1 : ∀ u ∈ news, u.oneCell' = true)
    (hsm : n + m ≤ 1073741824) (hbase : B ≤ w.heap.size)
    (h : ∀ ao' cap' w', Row B w' e K ao' (n + m) cap' (xs ++ news) → Fr (rowOf ao) w w' → (0 < n + m → ao' ≠ none) → wpList P ops Q rest (a.put o.dst (.slice ao' (n + m) cap')) w') : wpList P ops Q (o :: rest) a w :=
  wpList_plain hgd fun _ hK => wp_append_row s x t ho e i z K bytes ht hi hz hsize hby hzs hsz hb32 B ao n cap xs hs hown b off m c news hx hl hnews h1 hsm hbase fun ao' cap' w' h2 h3 h4 => hK _ _ (h ao' cap' w' h2 h3 h4)
theorem step_append_row {P : Program} {w : World} {ops : Array Oper} {o : Oper} {a : Act} {K' : Act → World → Prop} {Q : Exit → Act → World → Prop} {E : Prop} (hgd : o.guard = none) (s x : Operand) (t : TypeId)
    (ho : o.op = .call { callee := .builtin .append, args := #[s, x], argTypes := #[t, t] })
    (e : TypeId) (i : TypeInfo) (z : Value) (K bytes : Nat) (ht : P.underlying t = some (.slice e)) (hi : P.info? e = some i) (hz : i.zero = some z)
    (hsize : i.size = K) (hby : i.bytes = bytes) (hzs : z.cells.size = K) (hsz : 0 < K) (hb32 : bytes ≤ 4096)
    (B : Nat) (ao : Option Addr) (n cap : Nat) (xs : List Value) (hs : a.eval s = .slice ao n cap) (hown : Row B w e K ao n cap xs)
    (b off m c : Nat) (news : List Value) (hx : a.eval x = .slice (some ⟨b, off, none⟩) m c) (hl : news.length = m * K) (hnews : ∀ j u, news[j]? = some u → w.cell? ⟨b, off + j, none⟩ = some u) (h1 : ∀ u ∈ news, u.oneCell' = true)
    (hsm : n + m ≤ 1073741824) (hbase : B ≤ w.heap.size)
    (h : ∀ ao' cap' w', Row B w' e K ao' (n + m) cap' (xs ++ news) → Fr (rowOf ao) w w' → (0 < n + m → ao' ≠ none) → K' (a.put o.dst (.slice ao' (n + m) cap')) w') :
    if Region.wanted o (yielded ops a.tmps) = true then Oper.wp P o a w K' Q else E := by
  have hw : Region.wanted o (yielded ops a.tmps) = true := by simp [Region.wanted, hgd]
  rw [if_pos hw]
  exact wp_append_row s x t ho e i z K bytes ht hi hz hsize hby hzs hsz hb32 B ao n cap xs hs hown b off m c news hx hl hnews h1 hsm hbase h
/-- The cells of a block that has just been made. -/
theorem news_new (w : World) (cs : Array Value) (t : TypeId) (xs : List Value) (hx : cs.toList = xs) : ∀ j u, xs[j]? = some u → (w.alloc (.cells cs t)).cell? ⟨w.heap.size, 0 + j, none⟩ = some u := by
  intro j u hj
  rw [Nat.zero_add, (Blk.new w t cs).cell j]
  subst hx
  simpa using hj

theorem news_new2 (w : World) (o : Obj) (cs : Array Value) (t : TypeId) (xs : List Value) (hx : cs.toList = xs) : ∀ j u, xs[j]? = some u → ((w.alloc o).alloc (.cells cs t)).cell? ⟨w.heap.size + 1, 0 + j, none⟩ = some u := by
  intro j u hj
  have h := news_new (w.alloc o) cs t xs hx j u hj
  rw [show (w.alloc o).heap.size = w.heap.size + 1 from by simp] at h
  exact h
/-- A slice's row that lies in blocks made since w0 leaves what was there then. -/
theorem Fr.rowed {T : Nat → Prop} {w0 w w' : World} {B : Nat} {e : TypeId} {K n cap : Nat} {ao : Option Addr} {xs : List Value} (h : Fr T w0 w) (hr : Row B w e K ao n cap xs) (hB : w0.heap.size ≤ B) (hf : Fr (rowOf ao) w w') : Fr T w0 w' :=
  h.trans (hf.mono (T' := fun k => w0.heap.size ≤ k) (fun k hk hk' => Nat.le_trans hB (hr.tag k hk hk').1)) (fun _ hk h' => absurd hk (Nat.not_lt_of_le h'))

/-! ### copy within a row of elements of K cells -/
section
variable {P : Program}
theorem run_copy_rowK (w : World) (dT sT ty elem : TypeId) (K g o dLen dCap m : Nat) (a : Addr) (sLen sCap : Nat) (cur : Array Value) (t : TypeId) (cs : List Value)
    (hu : P.underlying dT = some (.slice elem)) (hs : (P.info? elem).map (·.size) = some K)
    (hg : w.heap[g]? = some (.cells cur t (0, 0))) (hm : Nat.min sLen dLen = m) (hn : cs.length = m * K)
    (hsrc : ∀ j v, cs[j]? = some v → w.cell? (a.add j) = some v) (hfit : o + cs.length ≤ cur.size) (h1 : ∀ v ∈ cs, v.oneCell' = true) :
    (Builtin.copy_ #[dT, sT] ty #[.slice (some ⟨g, o, none⟩) dLen dCap, .slice (some a) sLen sCap]).run P w =
      .ok (goInt m) (w.setRow g (cur.toList.take o ++ cs ++ cur.toList.drop (o + cs.length)).toArray) := by
  have hl := run_loadCells_list (P := P) w a cs hsrc
  have hst := run_storeCells_at P g o t cs 0 cur w hg (by simpa using hfit) h1
  cases hq : P.info? elem with
  | none => simp [hq] at hs
  | some i =>
    have hi : i.size = K := by simpa [hq] using hs
    simp [Builtin.copy_, run_underlying hu, Builtin.lenOf, Builtin.firstCells, sizeOf, typeInfo, hq, hi, hm, ← hn, hl, hst]
end
/-- copy(s[o:], s[p:]) within a row: the m elements from p on are laid over those from o on. -/
theorem wpList_copy_row {P : Program} {w : World} {ops : Array Oper} {rest : List Oper} {o : Oper} {a : Act} {Q : Exit → Act → World → Prop} (hgd : o.guard = none) (d s : Operand) (t : TypeId)
    (ho : o.op = .call { callee := .builtin .copy, args := #[d, s], argTypes := #[t, t] }) (e : TypeId) (K : Nat) (hu : P.underlying t = some (.slice e)) (hsz : (P.info? e).map (·.size) = some K)
    (B g n cap : Nat) (xs : List Value) (hown : Row B w e K (some ⟨g, 0, none⟩) n cap xs)
    (od dLen dCap : Nat) (ad : Addr) (sLen sCap : Nat) (hd : a.eval d = .slice (some ⟨g, od, none⟩) dLen dCap) (hs : a.eval s = .slice (some ad) sLen sCap)
    (m : Nat) (hm : Nat.min sLen dLen = m) (cs : List Value) (hn : cs.length = m * K)
    (hsrc : ∀ j v, cs[j]? = some v → w.cell? (ad.add j) = some v) (hfit : od + cs.length ≤ n * K) (h1 : ∀ v ∈ cs, v.oneCell' = true)
    (h : ∀ w', Row B w' e K (some ⟨g, 0, none⟩) n cap (splice xs od cs) → Fr (fun k => k = g) w w' → wpList P ops Q rest (a.put o.dst (goInt m)) w') : wpList P ops Q (o :: rest) a w := by
  refine wpList_plain hgd fun K' hK => ?_
  obtain ⟨hBg, cur, hg, hcs, htake⟩ := hown.block
  have hnc := hown.le
  have hnK : n * K ≤ cap * K := Nat.mul_le_mul_right _ hnc
  have hcap := hown.capmax
  have hrun := run_copy_rowK (P := P) w t t o.type e K g od dLen dCap m ad sLen sCap cur e cs hu hsz hg hm hn hsrc (by omega) h1
  unfold Oper.wp
  simp [execOp, ho, resolve, invoke, builtin, hd, hs, hrun, Result.andThen]
  refine hK _ _ (h _ ?_ ?_)
  · have hlen : (cur.toList.take od ++ (cs ++ cur.toList.drop (od + cs.length))).length = cur.size := by
      simp only [List.length_append, List.length_take, List.length_drop, Array.length_toList]; omega
    refine ⟨?_, Or.inr ⟨g, cap, _, rfl, hBg, setRow_heap w g cur _ e _ hg, hnc, hcap, ?_, ?_⟩⟩
    · rw [length_splice _ _ _ (by rw [hown.len]; exact hfit), hown.len]
    · rw [List.size_toArray, hlen, hcs]
    · show List.take (n * K) _ = _
      unfold splice
      rw [← htake]
      simp only [List.take_append, List.take_take, List.length_take, Array.length_toList, List.drop_take]
      have e1 : min (n * K) od = od := by omega
      have e2 : min od (n * K) = od := by omega
      have e3 : min od cur.size = od := by omega
      rw [e1, e2, e3]
      congr 2
      · exact List.take_of_length_le (by omega)
      · congr 1; omega
  · exact ⟨rfl, rfl, rfl, by simp [World.setRow], fun k _ hk => setRow_other w g k _ hk⟩

/-! ### a list of structs, laid flat -/
section
variable {α : Type} (f : α → List Value) (K : Nat)
theorem flat_len (hf : ∀ a, (f a).length = K) : ∀ S : List α, (S.flatMap f).length = S.length * K
  | [] => by simp
  | a :: S => by rw [List.flatMap_cons, List.length_append, hf, flat_len hf S, List.length_cons, Nat.succ_mul]; omega
theorem flat_get (hf : ∀ a, (f a).length = K) : ∀ (S : List α) (i j : Nat) (a : α), S[i]? = some a → j < K → (S.flatMap f)[i * K + j]? = (f a)[j]?
  | [], _, _, _, h, _ => by simp at h
  | b :: S, 0, j, a, h, hj => by
    simp at h
    subst h
    rw [List.flatMap_cons, Nat.zero_mul, Nat.zero_add, List.getElem?_append_left (by rw [hf]; exact hj)]
  | b :: S, i + 1, j, a, h, hj => by
    rw [List.getElem?_cons_succ] at h
    have e : (i + 1) * K + j = K + (i * K + j) := by rw [Nat.succ_mul]; omega
    rw [List.flatMap_cons, e, List.getElem?_append_right (by rw [hf]; omega), hf, Nat.add_sub_cancel_left]
    exact flat_get hf S i j a h hj
theorem flat_take (hf : ∀ a, (f a).length = K) : ∀ (S : List α) (i : Nat), (S.flatMap f).take (i * K) = (S.take i).flatMap f
  | [], i => by simp
  | a :: S, 0 => by simp
  | a :: S, i + 1 => by
    have e : (i + 1) * K = (f a).length + i * K := by rw [Nat.succ_mul, hf]; omega
    rw [List.flatMap_cons, e, List.take_length_add_append, flat_take hf S i, List.take_succ_cons, List.flatMap_cons]
theorem flat_drop (hf : ∀ a, (f a).length = K) : ∀ (S : List α) (i : Nat), (S.flatMap f).drop (i * K) = (S.drop i).flatMap f
  | [], i => by simp
  | a :: S, 0 => by simp
  | a :: S, i + 1 => by
    have e : (i + 1) * K = (f a).length + i * K := by rw [Nat.succ_mul, hf]; omega
    rw [List.flatMap_cons, e, List.drop_length_add_append, flat_drop hf S i, List.drop_succ_cons]
end
end Go.Proofs.Yteglklcaaicjjaa
