/- The contract of works; the acts of a law, opened; the law CreditBounds. -/
import Derived.Test.YteglklcaaicjjaaW3
namespace Go.Proofs.Yteglklcaaicjjaa
open Go.RowKit Go.Maps

set_option maxHeartbeats 400000 in
theorem works_any (w : World) : Calls Try.prog 11 #[] w fun e w' => e = .returned (.bool true) ∧ Below w.heap.size w w' := by
  go_enter Try.func11, Try.ntmps11
  go_wp2_with fail
  refine (new_good 4 _ (by omega) (by omega)).mono ?_
  rintro e w1 ⟨pb, mb, rfl, hw1, hpb, hmb, hb1⟩
  go_wp2_with fail
  refine (take_any _ pb mb 4 1 [0] 0 1 hw1 (by omega) (by omega) (by omega)).mono ?_
  rintro e w2 ⟨he, hw2, hf2⟩
  rw [show takeE [0] 0 1 = 0 by decide] at he
  rw [show takeS [0] 0 1 = [] by decide] at hw2
  subst he
  go_wp2_with fail
  refine (give_any _ pb mb 4 1 [] 0 hw2 (by omega) (by omega) (by omega)).mono ?_
  rintro e w3 ⟨he, hw3, hf3⟩
  rw [show giveN 4 ([] : List Nat).length 0 = 1 by decide] at he hw3
  rw [show ([] ++ run 1 (1 : Int).toNat : List Nat) = [1] by decide] at hw3
  subst he
  go_wp2_with fail
  refine (give_any _ pb mb 4 2 [1] 9 hw3 (by omega) (by omega) (by omega)).mono ?_
  rintro e w4 ⟨he, hw4, hf4⟩
  rw [show giveN 4 ([1] : List Nat).length 9 = 3 by decide] at he hw4
  rw [show ([1] ++ run 2 (3 : Int).toNat : List Nat) = [1, 2, 3, 4] by decide] at hw4
  subst he
  go_wp2_with fail
  refine (take_any _ pb mb 4 5 [1, 2, 3, 4] 2 3 hw4 (by omega) (by omega) (by omega)).mono ?_
  rintro e w5 ⟨he, hw5, hf5⟩
  rw [show takeE [1, 2, 3, 4] 2 3 = 0 by decide] at he
  rw [show takeS [1, 2, 3, 4] 2 3 = [1] by decide] at hw5
  subst he
  go_wp2_with fail
  refine (take_any _ pb mb 4 5 [1] 2 3 hw5 (by omega) (by omega) (by omega)).mono ?_
  rintro e w6 ⟨he, hw6, hf6⟩
  rw [show takeE [1] 2 3 = 17 by decide] at he
  rw [show takeS [1] 2 3 = [1] by decide] at hw6
  subst he
  go_wp2_with fail
  refine (has_any _ pb mb 4 5 [1] hw6).mono ?_
  rintro e w7 ⟨rfl, rfl⟩
  go_wp2_with fail
  go_ret
  have hf : Fr (Of pb mb) w1 w6 := (((hf2.step hf3).step hf4).step hf5).step hf6
  refine ⟨rfl, hb1.trans (hf.below hb1.size (fun k hk => ?_))⟩
  rcases hk with rfl | rfl
  · exact hpb
  · exact hmb

/-- One act. -/
structure ActV where
  give : Bool
  want : Int
  id : Nat
  charge : Int
  deriving Inhabited
/-- The act's numbers fit their kinds. -/
structure ActV.Ok (a : ActV) : Prop where
  w0 : -9223372036854775808 ≤ a.want
  w1 : a.want ≤ 9223372036854775807
  i1 : a.id < 18446744073709551616
  c0 : -9223372036854775808 ≤ a.charge
  c1 : a.charge ≤ 9223372036854775807
/-- The i-th act's cells. -/
structure ActAt (w : World) (b o : Nat) (a : ActV) : Prop where
  k0 : w.cell? ⟨b, o, none⟩ = some (.bool a.give)
  k1 : w.cell? ⟨b, o + 1, none⟩ = some (.int .i64 a.want)
  k2 : w.cell? ⟨b, o + 2, none⟩ = some (.int .u64 (a.id : Int))
  k3 : w.cell? ⟨b, o + 3, none⟩ = some (.int .i64 a.charge)
/-- The slice's acts; its address may be none where it is empty. -/
def Acts (w : World) (ao : Option Addr) (n : Nat) (A : Nat → ActV) : Prop :=
  ∀ i, i < n → ∃ b o, ao = some ⟨b, o, none⟩ ∧ b < w.heap.size ∧ ActAt w b (o + i * 4) (A i) ∧ (A i).Ok
theorem ActAt.below {w w' : World} {b o B : Nat} {a : ActV} (h : ActAt w b o a) (hb : Below B w w') (hB : b < B) : ActAt w' b o a :=
  ⟨(hb.cell (p := ⟨b, _, none⟩) hB).trans h.k0, (hb.cell (p := ⟨b, _, none⟩) hB).trans h.k1, (hb.cell (p := ⟨b, _, none⟩) hB).trans h.k2, (hb.cell (p := ⟨b, _, none⟩) hB).trans h.k3⟩
theorem Acts.below {w w' : World} {ao : Option Addr} {n : Nat} {A : Nat → ActV} (h : Acts w ao n A) (hb : Below w.heap.size w w') : Acts w' ao n A := fun i hi => by
  obtain ⟨b, o, rfl, hlt, ha, hok⟩ := h i hi
  exact ⟨b, o, rfl, Nat.lt_of_lt_of_le hlt hb.size, ha.below hb hlt, hok⟩

open Go.WideShapes Go.ChangeShapes Go.Deep in
theorem acts_of {H : Type} {enc : TypeId × Value → H} {w : World} {ao : Option Addr} {n c : Nat} {d : DataW H} {p : List MemPlace}
    (h : DataW.Trod enc Try.prog w 0 (fun _ => true) true 22 (.slice ao n c) d p) : ∃ A, Acts w ao n A ∧ n ≤ 9223372036854775807 := by
  obtain ⟨fuel, hf⟩ := h
  obtain ⟨ao', len, cap, hcs, hl, hm, hi⟩ := open_slice_fields Try.underlying22 Try.underlying31 (by kernel_rfl) (by kernel_rfl) 4 rfl (by omega) hf
  simp [Value.cells] at hcs
  obtain ⟨rfl, rfl, rfl⟩ := hcs
  have hlen : n ≤ 9223372036854775807 := by unfold maxLen at hm; omega
  have key : ∀ i, i < n → ∃ q : ActV, ∃ b o, ao = some ⟨b, o, none⟩ ∧ b < w.heap.size ∧ ActAt w b (o + i * 4) q ∧ q.Ok := fun i hlt => by
    obtain ⟨b, o, hao, hb, hi⟩ := hi i hlt
    obtain ⟨n0, v0, y0, c0, t0⟩ := hi 0 _ rfl
    obtain ⟨n1, v1, y1, c1, t1⟩ := hi 1 _ rfl
    obtain ⟨n2, v2, y2, c2, t2⟩ := hi 2 _ rfl
    obtain ⟨n3, v3, y3, c3, t3⟩ := hi 3 _ rfl
    obtain ⟨x0, e0, _⟩ := DataW.trod_bool Try.underlying4 t0
    obtain ⟨x1, e1, _, w1⟩ := DataW.trod_int Try.underlying3 t1
    obtain ⟨x2, e2, _, w2⟩ := DataW.trod_int Try.underlying29 t2
    obtain ⟨x3, e3, _, w3⟩ := DataW.trod_int Try.underlying3 t3
    simp only [List.cons.injEq, and_true] at e0 e1 e2 e3
    subst e0 e1 e2 e3
    obtain ⟨l1, u1⟩ := bounds_i64 w1
    obtain ⟨l2, u2⟩ := bounds_u64 w2
    obtain ⟨l3, u3⟩ := bounds_i64 w3
    rw [← Nat.add_assoc] at c0 c1 c2 c3
    obtain ⟨m, rfl⟩ := Int.eq_ofNat_of_zero_le l2
    exact ⟨⟨x0, x1, m, x3⟩, b, o, hao, hb, ⟨c0, c1, c2, c3⟩, ⟨l1, u1, by show m < _; omega, l3, u3⟩⟩
  obtain ⟨f, hf⟩ := choose_lt key
  exact ⟨f, hf, hlen⟩
end Go.Proofs.Yteglklcaaicjjaa
