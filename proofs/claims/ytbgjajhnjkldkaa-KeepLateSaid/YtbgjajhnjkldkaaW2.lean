/- A keep in memory; contracts of off, New. -/
import Derived.Test.YtbgjajhnjkldkaaW1
import Derived.Deep.MidRow
namespace Go.Proofs.Ytbgjajhnjkldkaa
open Go.RowKit Go.WideShapes Go.Maps

def It.val (x : It) : Value := .agg (ics x.u x.g x.t)
def It.kv (x : It) : Int × Value := (x.k, x.val)
def InI (z : Int) : Prop := -9223372036854775808 ≤ z ∧ z ≤ 9223372036854775807
def findS (S : List It) (k : Int) : Option It := S.find? fun x => decide (x.k = k)
theorem findS_mem {S : List It} {k : Int} {x : It} (h : findS S k = some x) : x ∈ S ∧ x.k = k := by
  refine ⟨List.mem_of_find?_eq_some h, ?_⟩
  have := List.find?_some h
  simpa using this
theorem findS_none {S : List It} {k : Int} (h : findS S k = none) : ∀ x ∈ S, x.k ≠ k := fun x hx => by
  have := List.find?_eq_none.1 h x hx
  simpa using this
theorem find_of {S : List It} (hS : S.Pairwise fun x y => x.k < y.k) {x : It} (h : x ∈ S) : findS S x.k = some x := by
  cases hf : findS S x.k with
  | none => exact absurd rfl (findS_none hf x h)
  | some y =>
    obtain ⟨hy, hk⟩ := findS_mem hf
    obtain ⟨i', hi', rfl⟩ := List.getElem_of_mem hy
    obtain ⟨i, hi, rfl⟩ := List.getElem_of_mem h
    have hp := List.pairwise_iff_getElem.1 hS
    rcases Nat.lt_trichotomy i' i with h1 | h1 | h1
    · have := hp i' i hi' hi h1; omega
    · subst h1; rfl
    · have := hp i i' hi hi' h1; omega
theorem get_kv (M : List It) (k : Int) : getD (M.map It.kv) k = (findS M k).map It.val := by
  unfold getD findS
  rw [List.find?_map, Option.map_map]
  rfl
theorem find_perm {M S : List It} (hp : M.Perm S) (hS : S.Pairwise fun x y => x.k < y.k) (k : Int) : findS M k = findS S k := by
  cases hs : findS S k with
  | none =>
    unfold findS
    rw [List.find?_eq_none]
    intro x hx
    have := findS_none hs x (hp.mem_iff.1 hx)
    simpa using this
  | some x =>
    obtain ⟨hx, hk⟩ := findS_mem hs
    cases hm : findS M k with
    | none => exact absurd hk (findS_none hm x (hp.mem_iff.2 hx))
    | some y =>
      obtain ⟨hy, hky⟩ := findS_mem hm
      have h1 := find_of hS (hp.mem_iff.1 hy)
      have h2 := find_of hS hx
      rw [hky] at h1
      rw [hk] at h2
      rw [h1] at h2
      exact h2

/-- A KEEP. -/
structure KeepAt (B : Nat) (w : World) (pb mb : Nat) (S : List It) : Prop where
  lowp : B ≤ pb
  lowm : B ≤ mb
  blk : Blk w pb 49 #[.map (some mb)]
  map : ∃ M : List It, M.Perm S ∧ DictAt Try.prog 3 .i64 w mb (M.map It.kv)
  asc : S.Pairwise fun x y => x.k < y.k
  rng : ∀ x ∈ S, InI x.k
section
variable {B : Nat} {w w' : World} {pb mb : Nat} {S : List It}
theorem KeepAt.mlt (h : KeepAt B w pb mb S) : mb < w.heap.size := by obtain ⟨M, _, hd⟩ := h.map; exact hd.lt
theorem KeepAt.ne (h : KeepAt B w pb mb S) : pb ≠ mb := by obtain ⟨M, _, hd⟩ := h.map; exact Blk.ne_dict h.blk hd
theorem KeepAt.fr {T : Nat → Prop} (h : KeepAt B w pb mb S) (hf : Fr T w w') (h1 : ¬ T pb) (h2 : ¬ T mb) : KeepAt B w' pb mb S := by
  obtain ⟨M, hp, hd⟩ := h.map
  exact ⟨h.lowp, h.lowm, h.blk.fr hf h1, ⟨M, hp, hd.fr hf h2⟩, h.asc, h.rng⟩
theorem KeepAt.below (h : KeepAt B w pb mb S) (hf : Below w.heap.size w w') : KeepAt B w' pb mb S := h.fr (Fr.of_below (T := none0) hf) (fun h => h) (fun h => h)
theorem KeepAt.c0 (h : KeepAt B w pb mb S) : w.cell? ⟨pb, 0, none⟩ = some (.map (some mb)) := h.blk.cell 0
/-- Only the map turns. -/
theorem KeepAt.frB (h : KeepAt B w pb mb S) (hf : Fr (fun j => j = mb) w w') (hB : B ≤ w.heap.size) : Below B w w' :=
  ⟨hf.os, hf.tape, hf.output, hf.size, fun k hk => hf.block k (by omega) (fun e => by have := h.lowm; omega)⟩
end
theorem wf_i64 {k : Int} (h : InI k) : (Lit.int .i64 k).wf = true := by
  unfold InI at h
  simp [Lit.wf, IntKind.min, IntKind.max, IntKind.signed, IntKind.bits]
  omega
theorem q47 (w : World) (r : Option Nat) : (binOp .eql 47 (.map r) (.map none)).run Try.prog w = .ok (.bool r.isNone) w := run_eql_map_nil w _ _ _ r Try.underlying47
theorem off_any (w : World) (pb mb : Nat) (c1 : w.cell? ⟨pb, 0, none⟩ = some (.map (some mb))) : Calls Try.prog 24 #[.pointer (some ⟨pb, 0, none⟩)] w fun e w' => e = .returned (.bool false) ∧ w = w' := by
  have hm := q47
  go_enter Try.func24, Try.ntmps24
  go_wp2
  go_ret
  exact ⟨rfl, rfl⟩
theorem new_any (w : World) : Calls Try.prog 20 #[] w fun e w' => ∃ pb mb, e = .returned (.pointer (some ⟨pb, 0, none⟩)) ∧ KeepAt w.heap.size w' pb mb [] ∧ Below w.heap.size w w' := by
  have hmm := @run_makeMap Try.prog
  go_enter Try.func20, Try.ntmps20
  go_wp2
  go_ret
  refine ⟨w.heap.size + 1, w.heap.size, rfl, ⟨by omega, Nat.le_refl _, ?_, ⟨[], List.Perm.refl _, (DictAt.made _ _ _ w).of_block (Below.heap_alloc _ _ _ (by simp))⟩, List.Pairwise.nil, by simp⟩, ((Below.refl _ _).alloc (Nat.le_refl _) _).alloc (by simp) _⟩
  have := Blk.new (w.alloc (.map #[] 0)) 49 #[.map (some w.heap.size)]
  simpa using this
theorem zero55 (w : World) : (zeroValue 55).run Try.prog w = .ok (.agg (ics .empty (fun _ => 0) 0)) w := by kernel_rfl

theorem setCells_blk {g : Nat} {t : TypeId} : ∀ (vs : List Value) (o : Nat) (w : World) (cs : Array Value), Blk w g t cs → (∃ cs', Blk (w.setCells g o vs) g t cs' ∧ cs'.size = cs.size) ∧ Fr (fun j => j = g) w (w.setCells g o vs)
  | [], _, w, cs, h => ⟨⟨cs, h, rfl⟩, Fr.refl _ w⟩
  | v :: vs, o, w, cs, h => by
    obtain ⟨⟨cs', h1, h2⟩, h3⟩ := setCells_blk vs (o + 1) (w.setCell ⟨g, o, none⟩ v) _ (h.set_ o v)
    exact ⟨⟨cs', h1, by rw [h2]; simp⟩, ((Fr.refl (fun j => j = g) w).setCell (p := ⟨g, o, none⟩) (fun _ => rfl) v).step h3⟩
/-- A whole block is stored. -/
theorem wpList_store_blk {P : Program} {ops : Array Oper} {rest : List Oper} {op : Oper} {a : Act} {w : World} {Q : Exit → Act → World → Prop} (hgd : op.guard = none) (ty : TypeId) (x y : Operand) (ho : op.op = .store ty x y)
    (g : Nat) (t : TypeId) (cs cells : Array Value) (hx : a.eval x = .pointer (some ⟨g, 0, none⟩)) (hy : a.eval y = .agg cells) (hb : Blk w g t cs) (hsz : cells.size = cs.size) (hi : (P.info? ty).map (·.size) = some cells.size) (h1 : cells.all (·.oneCell') = true)
    (h : ∀ w', Blk w' g t cells → Fr (fun j => j = g) w w' → wpList P ops Q rest (a.put op.dst undef) w') : wpList P ops Q (op :: rest) a w := by
  have hth : w.there g 0 cells.size := fun j hj => ⟨by rw [Nat.zero_add, hb.cell j, Array.getElem?_eq_getElem (by omega)]; rfl, by rw [Nat.zero_add]; exact hb.frozen j⟩
  refine wpList_store_mid hgd ty x y ho g 0 cells hx hy hth hi h1 ?_
  obtain ⟨⟨cs', h2, h3⟩, h4⟩ := setCells_blk cells.toList 0 w cs hb
  have e : cs' = cells := by
    apply Array.ext_getElem?
    intro j
    by_cases hj : j < cells.size
    · have h5 := World.cell?_setCells_in g cells.toList 0 w (fun i hi => (hth i (by simpa using hi)).1) j (by simpa using hj)
      rw [Nat.zero_add, h2.cell j] at h5
      rw [h5, Array.getElem?_eq_getElem hj]
      simp
    · rw [Array.getElem?_eq_none (by omega), Array.getElem?_eq_none (by omega)]
  rw [e] at h2
  exact h _ h2 h4
theorem ics_size (u : ByteArray) (g : Gd) (t : Int) : (ics u g t).size = 18 := rfl
theorem ics_one (u : ByteArray) (g : Gd) (t : Int) : (ics u g t).all (·.oneCell') = true := by simp [ics, Value.oneCell']
theorem info55 : (Try.prog.info? 55).map (·.size) = some 18 := by kernel_rfl

set_option maxRecDepth 100000 in
set_option maxHeartbeats 2000000 in
theorem has_any (B : Nat) (w : World) (pb mb : Nat) (S : List It) (k : Int) (h : KeepAt B w pb mb S) (hk : InI k) :
    Calls Try.prog 11 #[.pointer (some ⟨pb, 0, none⟩), .int .i64 k] w fun e w' => e = .returned (.bool (findS S k).isSome) ∧ Below w.heap.size w w' := by
  obtain ⟨M, hp, hd⟩ := h.map
  have hfp := find_perm hp h.asc k
  have HD := Lib.hid hd
  have HW := Lib.hid (wf_i64 hk)
  have c1 := h.c0
  obtain ⟨u, g, t, b, hv, hb⟩ : ∃ u g t b, (getD (M.map It.kv) k).getD (.agg (ics .empty (fun _ => 0) 0)) = .agg (ics u g t) ∧ (getD (M.map It.kv) k).isSome = b := by
    rw [get_kv]
    cases findS M k with
    | none => exact ⟨_, _, _, _, rfl, rfl⟩
    | some x => exact ⟨_, _, _, _, rfl, rfl⟩
  have hbs : (findS S k).isSome = b := by
    rw [← hfp, ← hb, get_kv, Option.isSome_map]
  have HV := Lib.hid hv
  have HB := Lib.hid hb
  rw [hbs]
  clear h hp hd hfp hv hb hbs
  go_enter Try.func11, Try.ntmps11
  go_wp2_with fail
  refine (off_any w pb mb c1).mono ?_
  rintro e w1 ⟨rfl, rfl⟩
  have HB0 : Hid (Blk (w.alloc (.cells (ics .empty (fun _ => 0) 0) 55)) w.heap.size 55 (ics .empty (fun _ => 0) 0)) := Blk.new _ _ _
  go_wp2_with (first
    | (at_lookup; refine wpList_lookup_dict_ok _ rfl _ _ 47 rfl 3 55 .i64 Try.underlying3 Try.underlying47 _ (zero55 _) mb _ rfl HD.out k rfl HW.out ?_; rw [HV.out, HB.out])
    | (refine wpList_store_blk rfl 55 (.tmp 5) (.tmp 16) rfl w.heap.size 55 _ (ics u g t) rfl rfl HB0.out rfl info55 (ics_one _ _ _) ?_))
  intro w2 hb2 hf2
  have HB2 : Hid (Below w.heap.size w w2) := ((Fr.refl none0 w).alloc _ |>.trans (hf2.mono (T' := fun k => w.heap.size ≤ k) (fun k _ e => by omega)) (fun k hk h => absurd hk (Nat.not_lt_of_le h))).below (Nat.le_refl _) (fun _ h => h.elim)
  clear hb2 hf2
  go_wp2_with fail
  go_ret
  exact ⟨rfl, HB2.out⟩
end Go.Proofs.Ytbgjajhnjkldkaa
