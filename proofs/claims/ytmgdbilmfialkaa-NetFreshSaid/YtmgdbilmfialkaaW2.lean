/- A net in memory; contracts of New, off, at, Waits, by walks. -/
import Derived.Test.YtmgdbilmfialkaaW1
namespace Go.Proofs.Ytmgdbilmfialkaa
open Go.RowKit Go.WideShapes Go.Maps

/-- A link, and what waits on its two streams. -/
structure Ab where
  k : Int
  b0 : List Value
  b1 : List Value
def findA (A : List Ab) (k : Int) : Option Ab := A.find? fun x => decide (x.k = k)
/-- What waits on a stream. -/
def Ab.b (x : Ab) (j : Nat) : List Value := if j = 0 then x.b0 else x.b1
def Ab.set (x : Ab) (j : Nat) (bs : List Value) : Ab := if j = 0 then { x with b0 := bs } else { x with b1 := bs }
def setA (A : List Ab) (k : Int) (j : Nat) (bs : List Value) : List Ab := A.map fun x => if x.k = k then x.set j bs else x
theorem Ab.set_k (x : Ab) (j : Nat) (bs : List Value) : (x.set j bs).k = x.k := by unfold Ab.set; split <;> rfl

/-- A link in memory. -/
structure Ln where
  k : Int
  lb : Nat
  a0 : Option Addr
  c0 : Nat
  b0 : List Value
  a1 : Option Addr
  c1 : Nat
  b1 : List Value
def Ln.ab (x : Ln) : Ab := ⟨x.k, x.b0, x.b1⟩
def Ln.kv (x : Ln) : Int × Value := (x.k, .pointer (some ⟨x.lb, 0, none⟩))
def findL (L : List Ln) (k : Int) : Option Ln := L.find? fun x => decide (x.k = k)
/-- Whose a block is: a link's number and which of its things. -/
abbrev Own := Nat → Int × Nat
structure LnAt (B : Nat) (w : World) (own : Own) (x : Ln) : Prop where
  lo : B ≤ x.lb
  blk : Blk w x.lb 57 #[.slice x.a0 x.b0.length x.c0, .slice x.a1 x.b1.length x.c1]
  r0 : Row B w 5 1 x.a0 x.b0.length x.c0 x.b0
  r1 : Row B w 5 1 x.a1 x.b1.length x.c1 x.b1
  y0 : AllB x.b0
  y1 : AllB x.b1
  l0 : x.b0.length ≤ 4194304
  l1 : x.b1.length ≤ 4194304
  o : own x.lb = (x.k, 2)
  o0 : ∀ k, rowOf x.a0 k → own k = (x.k, 0)
  o1 : ∀ k, rowOf x.a1 k → own k = (x.k, 1)
/-- A NET: its block pb, its map mb, its links L. -/
structure NetAt (B : Nat) (w : World) (pb mb : Nat) (last : Int) (L : List Ln) (own : Own) : Prop where
  lowp : B ≤ pb
  lowm : B ≤ mb
  blk : Blk w pb 46 #[.int .i64 last, .map (some mb)]
  map : DictAt Try.prog 3 .i64 w mb (L.map Ln.kv)
  each : ∀ x ∈ L, LnAt B w own x
  asc : L.Pairwise fun x y => x.k < y.k
  rng : ∀ x ∈ L, 1 ≤ x.k ∧ x.k ≤ last
  len : L.length ≤ 64
  last0 : 0 ≤ last
  last1 : last ≤ 1000000
  op : own pb = (0, 2)
  om : own mb = (0, 2)
section
variable {B : Nat} {w w' : World} {pb mb : Nat} {last : Int} {L : List Ln} {own own' : Own} {x : Ln}
theorem row_lt {ao : Option Addr} {n c : Nat} {xs : List Value} {t : TypeId} {K : Nat} (h : Row B w t K ao n c xs) : ∀ k, rowOf ao k → k < w.heap.size := by rintro k ⟨a, rfl, rfl⟩; exact h.lt
theorem LnAt.fr {T : Nat → Prop} (h : LnAt B w own x) (hf : Fr T w w') (hT : ∀ k, k < w.heap.size → T k → ¬ (own k = (x.k, 0) ∨ own k = (x.k, 1) ∨ own k = (x.k, 2))) : LnAt B w' own x :=
  ⟨h.lo, h.blk.fr hf (fun ht => hT _ h.blk.lt ht (Or.inr (Or.inr h.o))), h.r0.fr hf (fun k hk ht => hT k (row_lt h.r0 k hk) ht (Or.inl (h.o0 k hk))), h.r1.fr hf (fun k hk ht => hT k (row_lt h.r1 k hk) ht (Or.inr (Or.inl (h.o1 k hk)))), h.y0, h.y1, h.l0, h.l1, h.o, h.o0, h.o1⟩
theorem LnAt.relabel (h : LnAt B w own x) (ho : ∀ k, k < w.heap.size → own' k = own k) : LnAt B w own' x :=
  ⟨h.lo, h.blk, h.r0, h.r1, h.y0, h.y1, h.l0, h.l1, (ho _ h.blk.lt).trans h.o, fun k hk => (ho k (row_lt h.r0 k hk)).trans (h.o0 k hk), fun k hk => (ho k (row_lt h.r1 k hk)).trans (h.o1 k hk)⟩
theorem NetAt.fr {T : Nat → Prop} (h : NetAt B w pb mb last L own) (hf : Fr T w w') (hT : ∀ k, k < w.heap.size → T k → 2 < (own k).2) : NetAt B w' pb mb last L own := by
  have no : ∀ k a, k < w.heap.size → T k → ∀ j, j ≤ 2 → own k ≠ (a, j) := fun k a hk ht j hj e => by have := hT k hk ht; rw [e] at this; simp only at this; omega
  exact ⟨h.lowp, h.lowm, h.blk.fr hf (fun ht => no _ _ h.blk.lt ht 2 (by omega) h.op), h.map.fr hf (fun ht => no _ _ h.map.lt ht 2 (by omega) h.om),
    fun x hx => (h.each x hx).fr hf (fun k hk ht hq => by rcases hq with e | e | e <;> exact no k _ hk ht _ (by omega) e), h.asc, h.rng, h.len, h.last0, h.last1, h.op, h.om⟩
theorem NetAt.below (h : NetAt B w pb mb last L own) (hf : Below w.heap.size w w') : NetAt B w' pb mb last L own := h.fr (Fr.of_below (T := none0) hf) (fun _ _ h => h.elim)
theorem NetAt.relabel (h : NetAt B w pb mb last L own) (ho : ∀ k, k < w.heap.size → own' k = own k) : NetAt B w pb mb last L own' :=
  ⟨h.lowp, h.lowm, h.blk, h.map, fun x hx => (h.each x hx).relabel ho, h.asc, h.rng, h.len, h.last0, h.last1, (ho _ h.blk.lt).trans h.op, (ho _ h.map.lt).trans h.om⟩
theorem NetAt.c0 (h : NetAt B w pb mb last L own) : w.cell? ⟨pb, 0, none⟩ = some (.int .i64 last) := h.blk.cell 0
theorem NetAt.c1 (h : NetAt B w pb mb last L own) : w.cell? ⟨pb, 1, none⟩ = some (.map (some mb)) := h.blk.cell 1
end
theorem get_kv (L : List Ln) (k : Int) : getD (L.map Ln.kv) k = (findL L k).map fun x => .pointer (some ⟨x.lb, 0, none⟩) := by
  unfold getD findL
  rw [List.find?_map]
  simp only [Option.map_map]
  rfl
theorem find_ab (L : List Ln) (k : Int) : findA (L.map Ln.ab) k = (findL L k).map Ln.ab := by
  unfold findA findL
  rw [List.find?_map]
  rfl
theorem findL_mem {L : List Ln} {k : Int} {x : Ln} (h : findL L k = some x) : x ∈ L ∧ x.k = k := by
  refine ⟨List.mem_of_find?_eq_some h, ?_⟩
  have := List.find?_some h
  simpa using this

theorem q44 (w : World) (r : Option Nat) : (binOp .eql 44 (.map r) (.map none)).run Try.prog w = .ok (.bool r.isNone) w := run_eql_map_nil w _ _ _ r Try.underlying44
theorem off_any (w : World) (pb mb : Nat) (c1 : w.cell? ⟨pb, 1, none⟩ = some (.map (some mb))) : Calls Try.prog 23 #[.pointer (some ⟨pb, 0, none⟩)] w fun e w' => e = .returned (.bool false) ∧ w = w' := by
  have hm := q44
  go_enter Try.func23, Try.ntmps23
  go_wp2
  go_ret
  exact ⟨rfl, rfl⟩
theorem new_any (w : World) : Calls Try.prog 9 #[] w fun e w' => ∃ pb mb, e = .returned (.pointer (some ⟨pb, 0, none⟩)) ∧ NetAt w.heap.size w' pb mb 0 [] (fun _ => (0, 2)) ∧ Below w.heap.size w w' := by
  have hmm := @run_makeMap Try.prog
  go_enter Try.func9, Try.ntmps9
  go_wp2
  go_ret
  refine ⟨w.heap.size + 1, w.heap.size, rfl, ⟨by omega, Nat.le_refl _, ?_, (DictAt.made _ _ _ w).of_block (Below.heap_alloc _ _ _ (by simp)), by simp, List.Pairwise.nil, by simp, by simp, by simp, by simp, rfl, rfl⟩, ((Below.refl _ _).alloc (Nat.le_refl _) _).alloc (by simp) _⟩
  have := Blk.new (w.alloc (.map #[] 0)) 46 #[.int .i64 0, .map (some w.heap.size)]
  simpa using this

theorem wf_i64 {k : Int} (h1 : -9223372036854775808 ≤ k) (h2 : k ≤ 9223372036854775807) : (Lit.int .i64 k).wf = true := by
  simp [Lit.wf, IntKind.min, IntKind.max, IntKind.signed, IntKind.bits]
  omega
theorem zero55 (w : World) : (zeroValue 55).run Try.prog w = .ok (.pointer none) w := by kernel_rfl

theorem at_none (B : Nat) (w : World) (pb mb : Nat) (last : Int) (L : List Ln) (own : Own) (k way : Int) (h : NetAt B w pb mb last L own) (h1 : -9223372036854775808 ≤ k) (h2 : k ≤ 9223372036854775807) (hf : findL L k = none) :
    Calls Try.prog 24 #[.pointer (some ⟨pb, 0, none⟩), .int .i64 k, .int .i64 way] w fun e w' => e = .returned (.tuple #[.pointer none, .int .i64 7]) ∧ w = w' := by
  have HM := Lib.hid h.map
  have HG : Hid ((getD (L.map Ln.kv) k).getD (.pointer none) = .pointer none) := by show _ = _; rw [get_kv, hf]; rfl
  have HW := Lib.hid (wf_i64 h1 h2)
  have c1 := h.c1
  clear h hf
  go_enter Try.func24, Try.ntmps24
  go_wp2_with fail
  refine (off_any w pb mb c1).mono ?_
  rintro e w1 ⟨rfl, rfl⟩
  go_wp2_with (at_lookup; refine wpList_lookup_dict _ rfl _ _ 44 rfl 3 55 .i64 Try.underlying3 Try.underlying44 _ (zero55 _) mb _ rfl HM.out k rfl HW.out ?_; rw [HG.out])
  go_ret2
  exact ⟨rfl, rfl⟩
theorem at_bad (B : Nat) (w : World) (pb mb : Nat) (last : Int) (L : List Ln) (own : Own) (k way : Int) (x : Ln) (h : NetAt B w pb mb last L own) (h1 : -9223372036854775808 ≤ k) (h2 : k ≤ 9223372036854775807) (hf : findL L k = some x) (h0 : ¬ way = 0) (h01 : ¬ way = 1) :
    Calls Try.prog 24 #[.pointer (some ⟨pb, 0, none⟩), .int .i64 k, .int .i64 way] w fun e w' => e = .returned (.tuple #[.pointer none, .int .i64 2]) ∧ w = w' := by
  have HM := Lib.hid h.map
  have HG : Hid ((getD (L.map Ln.kv) k).getD (.pointer none) = .pointer (some ⟨x.lb, 0, none⟩)) := by show _ = _; rw [get_kv, hf]; rfl
  have HW := Lib.hid (wf_i64 h1 h2)
  have c1 := h.c1
  have e0 : (way != 0) = true := by simpa using h0
  have e1 : (way != 1) = true := by simpa using h01
  clear h hf h0 h01
  go_enter Try.func24, Try.ntmps24
  go_wp2_with fail
  refine (off_any w pb mb c1).mono ?_
  rintro e w1 ⟨rfl, rfl⟩
  go_wp2_with (at_lookup; refine wpList_lookup_dict _ rfl _ _ 44 rfl 3 55 .i64 Try.underlying3 Try.underlying44 _ (zero55 _) mb _ rfl HM.out k rfl HW.out ?_; rw [HG.out])
  go_ret2
  exact ⟨rfl, rfl⟩
theorem at_ok (B : Nat) (w : World) (pb mb : Nat) (last : Int) (L : List Ln) (own : Own) (k : Int) (j : Nat) (x : Ln) (h : NetAt B w pb mb last L own) (h1 : -9223372036854775808 ≤ k) (h2 : k ≤ 9223372036854775807) (hf : findL L k = some x) (hj : j = 0 ∨ j = 1) :
    Calls Try.prog 24 #[.pointer (some ⟨pb, 0, none⟩), .int .i64 k, .int .i64 (j : Int)] w fun e w' => e = .returned (.tuple #[.pointer (some ⟨x.lb, j, none⟩), .int .i64 0]) ∧ w = w' := by
  have HM := Lib.hid h.map
  have HG : Hid ((getD (L.map Ln.kv) k).getD (.pointer none) = .pointer (some ⟨x.lb, 0, none⟩)) := by show _ = _; rw [get_kv, hf]; rfl
  have HW := Lib.hid (wf_i64 h1 h2)
  have c1 := h.c1
  clear h hf
  rcases hj with rfl | rfl
  all_goals
    go_enter Try.func24, Try.ntmps24
    go_wp2_with fail
    refine (off_any w pb mb c1).mono ?_
    rintro e w1 ⟨rfl, rfl⟩
    go_wp2_with (at_lookup; refine wpList_lookup_dict _ rfl _ _ 44 rfl 3 55 .i64 Try.underlying3 Try.underlying44 _ (zero55 _) mb _ rfl HM.out k rfl HW.out ?_; rw [HG.out])
    go_ret2
    exact ⟨rfl, rfl⟩
end Go.Proofs.Ytmgdbilmfialkaa
