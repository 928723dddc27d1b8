/- The acts that a law takes; contract of played, by a walk. -/
import Derived.Test.YtgcimkbggnjcdaaW18
namespace Go.Proofs.Ytgcimkbggnjcdaa
open Go.RowKit Go.WideShapes

theorem Lks.below {w W : World} {lo : Option Addr} {n : Nat} {L : Nat → Lk} (h : Lks w lo n L) {B : Nat} (hB : w.heap.size ≤ B) (hb : Below B w W) : Lks W lo n L := by
  intro k hk
  obtain ⟨b, o, h1, h2, c0, c1, c2, c3⟩ := h k hk
  have h3 : b < B := Nat.lt_of_lt_of_le h2 hB
  exact ⟨b, o, h1, Nat.lt_of_lt_of_le h2 hb.size, (hb.cell (p := ⟨b, _, none⟩) h3).trans c0, (hb.cell (p := ⟨b, _, none⟩) h3).trans c1, (hb.cell (p := ⟨b, _, none⟩) h3).trans c2, (hb.cell (p := ⟨b, _, none⟩) h3).trans c3⟩

open Go.WideShapes Go.ChangeShapes Go.Deep in
theorem lks_of {H : Type} {enc : TypeId × Value → H} {w : World} {ao : Option Addr} {n c : Nat} {d : DataW H} {p : List MemPlace}
    (h : DataW.Trod enc Try.prog w 0 (fun _ => true) true 30 (.slice ao n c) d p) : ∃ L, Lks w ao n L ∧ n ≤ 9223372036854775807 := by
  obtain ⟨fuel, hf⟩ := h
  obtain ⟨ao', len, cap, hcs, hl, hm, hi⟩ := open_slice_fields Try.underlying30 Try.underlying34 (by kernel_rfl) (by kernel_rfl) 4 rfl (by omega) hf
  simp [Value.cells] at hcs
  obtain ⟨rfl, rfl, rfl⟩ := hcs
  have hlen : n ≤ 9223372036854775807 := by unfold maxLen at hm; omega
  have key : ∀ i, i < n → ∃ q : Lk, ∃ b o, ao = some ⟨b, o, none⟩ ∧ b < w.heap.size ∧ w.cell? ⟨b, o + i * 4, none⟩ = some (.int .i64 q.op) ∧ w.cell? ⟨b, o + i * 4 + 1, none⟩ = some (.int .u64 (q.a : Int)) ∧ w.cell? ⟨b, o + i * 4 + 2, none⟩ = some (.int .u64 (q.n : Int)) ∧ w.cell? ⟨b, o + i * 4 + 3, none⟩ = some (.int .u16 (q.mode : Int)) := fun i hlt => by
    obtain ⟨b, o, hao, hb, hi⟩ := hi i hlt
    obtain ⟨n0, v0, y0, c0, t0⟩ := hi 0 _ rfl
    obtain ⟨n1, v1, y1, c1, t1⟩ := hi 1 _ rfl
    obtain ⟨n2, v2, y2, c2, t2⟩ := hi 2 _ rfl
    obtain ⟨n3, v3, y3, c3, t3⟩ := hi 3 _ rfl
    obtain ⟨x0, e0, _, w0⟩ := DataW.trod_int Try.underlying3 t0
    obtain ⟨x1, e1, _, w1⟩ := DataW.trod_int Try.underlying29 t1
    obtain ⟨x2, e2, _, w2⟩ := DataW.trod_int Try.underlying29 t2
    obtain ⟨x3, e3, _, w3⟩ := DataW.trod_int Try.underlying32 t3
    simp only [List.cons.injEq, and_true] at e0 e1 e2 e3
    subst e0 e1 e2 e3
    obtain ⟨l1, u1⟩ := bounds_u64 w1
    obtain ⟨l2, u2⟩ := bounds_u64 w2
    obtain ⟨l3, u3⟩ := bounds_u16 w3
    rw [← Nat.add_assoc] at c0 c1 c2 c3
    obtain ⟨m1, rfl⟩ := Int.eq_ofNat_of_zero_le l1
    obtain ⟨m2, rfl⟩ := Int.eq_ofNat_of_zero_le l2
    obtain ⟨m3, rfl⟩ := Int.eq_ofNat_of_zero_le l3
    exact ⟨⟨x0, m1, m2, m3⟩, b, o, hao, hb, c0, c1, c2, c3⟩
  obtain ⟨f, hf⟩ := choose_lt key
  exact ⟨f, hf, hlen⟩

/-- One act. -/
structure ActV where
  d : Int
  op : Int
  lo : Option Addr
  ln : Nat
  lc : Nat
  a : Nat
  n : Nat
  L : Nat → Lk
instance : Inhabited ActV := ⟨⟨0, 0, none, 0, 0, 0, 0, fun _ => default⟩⟩
/-- The k-th act of a slice, in memory. -/
structure ActAt (w : World) (b o k : Nat) (a : ActV) : Prop where
  k0 : w.cell? ⟨b, o + k * 5, none⟩ = some (.int .i64 a.d)
  k1 : w.cell? ⟨b, o + k * 5 + 1, none⟩ = some (.int .i64 a.op)
  k2 : w.cell? ⟨b, o + k * 5 + 2, none⟩ = some (.slice a.lo a.ln a.lc)
  k3 : w.cell? ⟨b, o + k * 5 + 3, none⟩ = some (.int .u64 (a.a : Int))
  k4 : w.cell? ⟨b, o + k * 5 + 4, none⟩ = some (.int .u64 (a.n : Int))
theorem ActAt.below {w w' : World} {b o k B : Nat} {a : ActV} (h : ActAt w b o k a) (hb : Below B w w') (hB : b < B) : ActAt w' b o k a :=
  ⟨(hb.cell (p := ⟨b, _, none⟩) hB).trans h.k0, (hb.cell (p := ⟨b, _, none⟩) hB).trans h.k1, (hb.cell (p := ⟨b, _, none⟩) hB).trans h.k2, (hb.cell (p := ⟨b, _, none⟩) hB).trans h.k3, (hb.cell (p := ⟨b, _, none⟩) hB).trans h.k4⟩
def Acts (w : World) (ao : Option Addr) (n : Nat) (A : Nat → ActV) : Prop :=
  ∀ k, k < n → ∃ b o, ao = some ⟨b, o, none⟩ ∧ b < w.heap.size ∧ ActAt w b o k (A k) ∧ Lks w (A k).lo (A k).ln (A k).L ∧ (A k).ln ≤ 9223372036854775807

open Go.WideShapes Go.ChangeShapes Go.Deep in
theorem acts_of {H : Type} {enc : TypeId × Value → H} {w : World} {ao : Option Addr} {n c : Nat} {d : DataW H} {p : List MemPlace}
    (h : DataW.Trod enc Try.prog w 0 (fun _ => true) true 22 (.slice ao n c) d p) : ∃ A, Acts w ao n A ∧ n ≤ 9223372036854775807 := by
  obtain ⟨fuel, hf⟩ := h
  obtain ⟨ao', len, cap, hcs, hl, hm, hi⟩ := open_slice_fields Try.underlying22 Try.underlying55 (by kernel_rfl) (by kernel_rfl) 5 rfl (by omega) hf
  simp [Value.cells] at hcs
  obtain ⟨rfl, rfl, rfl⟩ := hcs
  have hlen : n ≤ 9223372036854775807 := by unfold maxLen at hm; omega
  have key : ∀ i, i < n → ∃ q : ActV, ∃ b o, ao = some ⟨b, o, none⟩ ∧ b < w.heap.size ∧ ActAt w b o i q ∧ Lks w q.lo q.ln q.L ∧ q.ln ≤ 9223372036854775807 := fun i hlt => by
    obtain ⟨b, o, hao, hb, hi⟩ := hi i hlt
    obtain ⟨n0, v0, y0, c0, t0⟩ := hi 0 _ rfl
    obtain ⟨n1, v1, y1, c1, t1⟩ := hi 1 _ rfl
    obtain ⟨n2, v2, y2, c2, t2⟩ := hi 2 _ rfl
    obtain ⟨n3, v3, y3, c3, t3⟩ := hi 3 _ rfl
    obtain ⟨n4, v4, y4, c4, t4⟩ := hi 4 _ rfl
    obtain ⟨x0, e0, _, w0⟩ := DataW.trod_int Try.underlying3 t0
    obtain ⟨x1, e1, _, w1⟩ := DataW.trod_int Try.underlying3 t1
    obtain ⟨x3, e3, _, w3⟩ := DataW.trod_int Try.underlying29 t3
    obtain ⟨x4, e4, _, w4⟩ := DataW.trod_int Try.underlying29 t4
    obtain ⟨so, sl, sc, es, _, _, _⟩ := open_slice_fields Try.underlying30 Try.underlying34 (by kernel_rfl) (by kernel_rfl) 4 rfl (by omega) t2
    simp only [List.cons.injEq, and_true] at e0 e1 e3 e4 es
    subst e0 e1 e3 e4 es
    obtain ⟨L, hL, hsl⟩ := lks_of (enc := enc) (c := sc) (d := y2.1) (p := y2.2) ⟨n2, by simpa [Value.cells] using t2⟩
    obtain ⟨l3, u3⟩ := bounds_u64 w3
    obtain ⟨l4, u4⟩ := bounds_u64 w4
    rw [← Nat.add_assoc] at c0 c1 c2 c3 c4
    obtain ⟨m3, rfl⟩ := Int.eq_ofNat_of_zero_le l3
    obtain ⟨m4, rfl⟩ := Int.eq_ofNat_of_zero_le l4
    exact ⟨⟨x0, x1, so, sl, sc, m3, m4, L⟩, b, o, hao, hb, ⟨c0, c1, c2, c3, c4⟩, hL, hsl⟩
  obtain ⟨f, hf⟩ := choose_lt key
  exact ⟨f, hf, hlen⟩
end Go.Proofs.Ytgcimkbggnjcdaa
