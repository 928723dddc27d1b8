/- Contract of played, by a walk; the acts that a law takes. -/
import Derived.Test.YtceomfdppbmebaaW10
namespace Go.Proofs.Ytceomfdppbmebaa
open Go.RowKit Go.WideShapes

/-- One act. -/
structure ActV where
  d : Int
  c : Int
  id : Nat
  n : Nat
  x : Int
deriving Inhabited
/-- The k-th act of a slice, in memory. -/
structure ActAt (w : World) (b o k : Nat) (a : ActV) : Prop where
  k0 : w.cell? ⟨b, o + k * 5, none⟩ = some (.int .i64 a.d)
  k1 : w.cell? ⟨b, o + k * 5 + 1, none⟩ = some (.int .i64 a.c)
  k2 : w.cell? ⟨b, o + k * 5 + 2, none⟩ = some (.int .u64 (a.id : Int))
  k3 : w.cell? ⟨b, o + k * 5 + 3, none⟩ = some (.int .u64 (a.n : Int))
  k4 : w.cell? ⟨b, o + k * 5 + 4, none⟩ = some (.int .i64 a.x)
theorem ActAt.below {w w' : World} {b o k B : Nat} {a : ActV} (h : ActAt w b o k a) (hb : Below B w w') (hB : b < B) : ActAt w' b o k a :=
  ⟨(hb.cell (p := ⟨b, _, none⟩) hB).trans h.k0, (hb.cell (p := ⟨b, _, none⟩) hB).trans h.k1, (hb.cell (p := ⟨b, _, none⟩) hB).trans h.k2, (hb.cell (p := ⟨b, _, none⟩) hB).trans h.k3, (hb.cell (p := ⟨b, _, none⟩) hB).trans h.k4⟩
def Acts (w : World) (ao : Option Addr) (n : Nat) (A : Nat → ActV) : Prop :=
  ∀ k, k < n → ∃ b o, ao = some ⟨b, o, none⟩ ∧ b < w.heap.size ∧ ActAt w b o k (A k)

open Go.WideShapes Go.ChangeShapes Go.Deep in
theorem acts_of {H : Type} {enc : TypeId × Value → H} {w : World} {ao : Option Addr} {n c : Nat} {d : DataW H} {p : List MemPlace}
    (h : DataW.Trod enc Try.prog w 0 (fun _ => true) true 22 (.slice ao n c) d p) : ∃ A, Acts w ao n A ∧ n ≤ 9223372036854775807 := by
  obtain ⟨fuel, hf⟩ := h
  obtain ⟨ao', len, cap, hcs, hl, hm, hi⟩ := open_slice_fields Try.underlying22 Try.underlying53 (by kernel_rfl) (by kernel_rfl) 5 rfl (by omega) hf
  simp [Value.cells] at hcs
  obtain ⟨rfl, rfl, rfl⟩ := hcs
  have hlen : n ≤ 9223372036854775807 := by unfold maxLen at hm; omega
  have key : ∀ i, i < n → ∃ q : ActV, ∃ b o, ao = some ⟨b, o, none⟩ ∧ b < w.heap.size ∧ ActAt w b o i q := fun i hlt => by
    obtain ⟨b, o, hao, hb, hi⟩ := hi i hlt
    obtain ⟨n0, v0, y0, c0, t0⟩ := hi 0 _ rfl
    obtain ⟨n1, v1, y1, c1, t1⟩ := hi 1 _ rfl
    obtain ⟨n2, v2, y2, c2, t2⟩ := hi 2 _ rfl
    obtain ⟨n3, v3, y3, c3, t3⟩ := hi 3 _ rfl
    obtain ⟨n4, v4, y4, c4, t4⟩ := hi 4 _ rfl
    obtain ⟨x0, e0, _, w0⟩ := DataW.trod_int Try.underlying3 t0
    obtain ⟨x1, e1, _, w1⟩ := DataW.trod_int Try.underlying3 t1
    obtain ⟨x2, e2, _, w2⟩ := DataW.trod_int Try.underlying29 t2
    obtain ⟨x3, e3, _, w3⟩ := DataW.trod_int Try.underlying29 t3
    obtain ⟨x4, e4, _, w4⟩ := DataW.trod_int Try.underlying3 t4
    simp only [List.cons.injEq, and_true] at e0 e1 e2 e3 e4
    subst e0 e1 e2 e3 e4
    obtain ⟨l2, u2⟩ := bounds_u64 w2
    obtain ⟨l3, u3⟩ := bounds_u64 w3
    rw [← Nat.add_assoc] at c0 c1 c2 c3 c4
    obtain ⟨m, rfl⟩ := Int.eq_ofNat_of_zero_le l2
    obtain ⟨m3, rfl⟩ := Int.eq_ofNat_of_zero_le l3
    exact ⟨⟨x0, x1, m, m3, x4⟩, b, o, hao, hb, ⟨c0, c1, c2, c3, c4⟩⟩
  obtain ⟨f, hf⟩ := choose_lt key
  exact ⟨f, hf, hlen⟩

theorem numsOf_u64 (S : List It) : ∀ v ∈ numsOf S, ∃ z : Int, v = .int .u64 z := by
  intro v hv
  unfold numsOf at hv
  obtain ⟨it, _, rfl⟩ := List.mem_map.1 hv
  exact ⟨_, rfl⟩

set_option maxHeartbeats 1000000 in
theorem played_any (w : World) (ao : Option Addr) (n c : Nat) (A : Nat → ActV) (hA : Acts w ao n A) (_ : n ≤ 9223372036854775807) :
    Calls Try.prog 10 #[.slice ao n c] w fun e w' => ∃ pb rb last S, e = .returned (.tuple #[.pointer (some ⟨pb, 0, none⟩), .pointer (some ⟨rb, 0, none⟩), .bool true]) ∧ Both w.heap.size w' pb rb last S ∧ last ≤ 80 ∧ Below w.heap.size w w' := by
  go_enter Try.func10, Try.ntmps10
  go_wp2_with fail
  refine (new_any _).mono ?_
  rintro e w1 ⟨pb, rfl, hp1, hb1⟩
  have hb2 : Below w.heap.size w (w1.alloc (.cells #[.slice none 0 0, .int .u64 0] 50)) := hb1.alloc hb1.size _
  have hboth : Both w.heap.size (w1.alloc (.cells #[.slice none 0 0, .int .u64 0] 50)) pb w1.heap.size 0 [] :=
    ⟨⟨_, _, hp1.below ((Below.refl _ _).alloc (Nat.le_refl _) _)⟩, ⟨none, 0, ⟨hb1.size, Blk.new _ _ _, Row.nil _ _ _ _, by simp, by simp⟩⟩, ⟨List.Pairwise.nil, by simp⟩⟩
  have HB2 := Lib.hid hb2
  have HH := Lib.hid hboth
  clear hb1 hb2 hboth hp1
  go_wp2_with fail
  generalize w1.alloc (.cells #[.slice none 0 0, .int .u64 0] 50) = w2 at *
  generalize w1.heap.size = rb at *
  go_loopw [2, 3, 4, 7] (fun _ _ _ s wr => ∃ (k last : Nat) (S : List It), k ≤ n ∧ k ≤ 80 ∧ s = .int .i64 k ∧ last ≤ k ∧ Hid (Both w.heap.size wr pb rb last S) ∧ Hid (Below w.heap.size w wr)) (fun _ _ _ s _ => n - (intOf s).toNat)
  case atStart => exact ⟨0, 0, [], Nat.zero_le _, Nat.zero_le _, rfl, Nat.le_refl _, HH.out, HB2.out⟩
  case round =>
    obtain ⟨k, last, S, hk, hk2, rfl, hlk, hh, hb⟩ := hrel
    by_cases hlt : k < n ∧ k < 80
    · obtain ⟨hl1, hl2⟩ := hlt
      obtain ⟨b, o, rfl, hbl, ha0⟩ := hA k hl1
      have ha := ha0.below hb.out hbl
      obtain ⟨k0, k1, k2, k3, k4⟩ := ha
      clear ha0
      generalize A k = q at *
      obtain ⟨d, ac, aid, an, ax⟩ := q
      dsimp only at k0 k1 k2 k3 k4
      go_wp2_with fail
      refine (act_any w.heap.size wr pb rb last S d ac aid an ax hh.out hb.out.size (by omega)).mono ?_
      rintro e w3 ⟨rfl, last', S', hle, hh3, hf3⟩
      have HB3 : Hid (Below w.heap.size w w3) := hb.out.trans (hf3.below hb.out.size)
      have HH3 := Lib.hid hh3
      clear k0 k1 k2 k3 k4 hh3 hf3
      obtain ⟨⟨po, pc, hp⟩, ⟨qo, qc, hr⟩, hs⟩ := HH3.out
      have HP := Lib.hid hp
      have HR := Lib.hid hr
      have HL := Lib.hid hp.len
      clear hp hr hs
      go_wp2_with fail
      refine (all_any _ _ pb last' S' po pc HP.out).mono ?_
      rintro e w4 ⟨ro, rc, rfl, hrow, hb4⟩
      have HROW := Lib.hid hrow
      have HB4 := Lib.hid hb4
      clear hrow hb4
      go_wp2_with fail
      refine (rall_any _ _ rb last' S' qo qc (HR.out.below HB4.out)).mono ?_
      rintro e w5 ⟨so, sc, rfl, hrow, hb5⟩
      have HROW2 := Lib.hid hrow
      have HROW1 := Lib.hid (HROW.out.fy (Fy.of_below (B := 0) (ts := []) hb5) (by simp))
      have HB5 : Hid (Below w3.heap.size w3 w5) := HB4.out.trans (hb5.mono HB4.out.size)
      clear hrow hb5
      go_wp2_with fail
      refine (words_same _ _ _ ro so S'.length rc sc (numsOf S') HROW1.out HROW2.out (numsOf_u64 S') (by have := HL.out; omega)).mono ?_
      rintro e w6 ⟨rfl, hb6⟩
      have hb7 : Below w3.heap.size w3 w6 := HB5.out.trans (hb6.mono HB5.out.size)
      have HH6 := Lib.hid (HH3.out.below hb7)
      have HB6 : Hid (Below w.heap.size w w6) := HB3.out.trans (hb7.mono HB3.out.size)
      clear hb6 hb7
      go_wp2_with fail
      go_roundw
      case rel => exact ⟨k + 1, last', S', by omega, by omega, by go_num, by omega, HH6.out, HB6.out⟩
      case measure => simp [intOf]; omega
    · by_cases hend : k < n
      all_goals
        have hend2 : k < n → ¬ k < 80 := by omega
        clear hlt
        first | (have hend3 := hend2 hend; clear hend2) | clear hend2
        go_wp2_with fail
        go_ret3
        exact ⟨pb, rb, last, S, rfl, hh.out, by omega, hb.out⟩
end Go.Proofs.Ytceomfdppbmebaa
