/- Items: their values, when two are the same; a keep in memory; contracts of off, New, Has. -/
import Derived.Test.YtbgjajhnjkldkaaE
import Derived.Test.YtbgjajhnjkldkaaD
namespace Go.Proofs.Ytbgjajhnjkldkaa
open Go.RowKit Go.WideShapes Go.Maps

theorem ret_int {k : IntKind} {a b : Int} (h : a = b) : Ending.returned (.int k a) = .returned (.int k b) := by rw [h]
/-- A Guid. -/
abbrev Gd := Nat → Int
def gcs (g : Gd) : Array Value := #[.int .u8 (g 0), .int .u8 (g 1), .int .u8 (g 2), .int .u8 (g 3), .int .u8 (g 4), .int .u8 (g 5), .int .u8 (g 6), .int .u8 (g 7), .int .u8 (g 8), .int .u8 (g 9), .int .u8 (g 10), .int .u8 (g 11), .int .u8 (g 12), .int .u8 (g 13), .int .u8 (g 14), .int .u8 (g 15)]
def gv (g : Gd) : Value := .agg (gcs g)
def gsame (g h : Gd) : Bool := (List.range 16).all fun i => g i == h i
theorem gsame_iff {g h : Gd} : gsame g h = true ↔ ∀ i, i < 16 → g i = h i := by
  unfold gsame
  simp [List.all_eq_true]
theorem gcs_range (g : Gd) : gcs g = ((List.range 16).map fun i => Value.int .u8 (g i)).toArray := by rfl

theorem run_equalIn_gd (w : World) (d : Nat) (g h : Gd) : (Op.equalIn (d + 2) 39 (.agg (gcs g)) (.agg (gcs h))).run Try.prog w = .ok (gsame g h) w := by
  have hsz : ∀ w, (sizeOf 5).run Try.prog w = .ok 1 w := fun w => by kernel_rfl
  unfold gsame
  rw [gcs_range, gcs_range, List.range_eq_range', Op.equalIn]
  simp only [Sem.run_bind, run_underlying Try.underlying39, Result.andThen_ok, hsz, Std.Legacy.Range.forIn_eq_forIn_range', Std.Legacy.Range.size, Nat.sub_zero, Nat.add_sub_cancel, Nat.div_one]
  have hl : ∀ i ∈ List.range' 0 16 1, i < 16 := fun i hi => by simpa using (List.mem_range'_1.1 hi).2
  have hin : ∀ (f : Gd) i, i < 16 → ((List.range' 0 16 1).map fun i => Value.int .u8 (f i))[i]? = some (.int .u8 (f i)) := fun f i hi => by
    rw [List.getElem?_map, List.getElem?_range' hi]
    simp
  generalize hL : ((List.range' 0 16 1).map fun i => Value.int .u8 (g i)) = Lg at *
  generalize hR : ((List.range' 0 16 1).map fun i => Value.int .u8 (h i)) = Lh at *
  have pg : ∀ i, i < 16 → (part 5 Lg.toArray (i * 1)).run Try.prog w = .ok (.int .u8 (g i)) w := fun i hi => by
    have := hin g i hi
    rw [hL] at this
    simp [part, isAgg, run_underlying Try.underlying5, this]
  have ph : ∀ i, i < 16 → (part 5 Lh.toArray (i * 1)).run Try.prog w = .ok (.int .u8 (h i)) w := fun i hi => by
    have := hin h i hi
    rw [hR] at this
    simp [part, isAgg, run_underlying Try.underlying5, this]
  clear hin hL hR
  generalize List.range' 0 16 1 = l at hl ⊢
  induction l with
  | nil => simp
  | cons i l ih =>
    have hi : i < 16 := hl i (by simp)
    have pe : (Op.equalIn (d + 1) 5 (.int .u8 (g i)) (.int .u8 (h i))).run Try.prog w = .ok (g i == h i) w := run_equalIn_int w d 5 .u8 .u8 _ _ Try.underlying5
    simp only [List.forIn_cons, Sem.run_bind, pg i hi, ph i hi, pe, Result.andThen_ok, List.all_cons]
    cases hb : (g i == h i)
    · simp
    · simp only [Bool.not_true, Bool.false_eq_true, if_false, Sem.run_pure, Result.andThen_ok, Bool.true_and]
      exact ih fun j hj => hl j (by simp [hj])
theorem neq_gd (w : World) (g h : Gd) : (binOp .neq 39 (gv g) (gv h)).run Try.prog w = .ok (.bool (!gsame g h)) w := by
  unfold gv
  rw [run_neq_struct, run_equalIn_gd w 9998 g h]
  rfl

/-- An item. -/
structure It where
  k : Int
  u : ByteArray
  g : Gd
  t : Int
instance : Inhabited It := ⟨⟨0, .empty, fun _ => 0, 0⟩⟩
def ics (u : ByteArray) (g : Gd) (t : Int) : Array Value := #[.string u, .int .u8 (g 0), .int .u8 (g 1), .int .u8 (g 2), .int .u8 (g 3), .int .u8 (g 4), .int .u8 (g 5), .int .u8 (g 6), .int .u8 (g 7), .int .u8 (g 8), .int .u8 (g 9), .int .u8 (g 10), .int .u8 (g 11), .int .u8 (g 12), .int .u8 (g 13), .int .u8 (g 14), .int .u8 (g 15), .int .i64 t]
theorem eqFields_step {P : Program} (w : World) (d : Nat) (xs ys : Array Value) (f : Field) (fs : List Field) (hn : f.name ≠ "_") (a b : Value) (r : Bool) (ha : (part f.type xs f.offset).run P w = .ok a w) (hb : (part f.type ys f.offset).run P w = .ok b w) (hr : (Op.equalIn d f.type a b).run P w = .ok r w) :
    (Op.eqFields d xs ys (f :: fs)).run P w = if r = true then (Op.eqFields d xs ys fs).run P w else .ok false w := by
  rw [Op.eqFields, if_pos hn]
  simp only [Sem.run_bind, ha, hb, hr, Result.andThen_ok]
  cases r
  · simp
  · simp
theorem fields55 : (Try.prog.fieldsOf 55).toList = [⟨"user", 9, 0, false, "", "refectory/keep", 0⟩, ⟨"guid", 39, 1, false, "", "refectory/keep", 16⟩, ⟨"till", 3, 17, false, "", "refectory/keep", 32⟩] := by
  simp [Program.fieldsOf, Try.underlying55]
theorem eq_item (w : World) (d : Nat) (u v : ByteArray) (g h : Gd) (s t : Int) : (Op.equalIn (d + 3) 55 (.agg (ics u g s)) (.agg (ics v h t))).run Try.prog w = .ok ((u.toList == v.toList) && gsame g h && (s == t)) w := by
  have hf : Try.prog.underlying 55 = some (.struct (Try.prog.fieldsOf 55)) := by kernel_rfl
  have hp : Try.prog.stoodInHeld 55 = false := by kernel_rfl
  have h0 : Try.prog.underlying 9 = some .string := by kernel_rfl
  rw [run_equalIn_struct w (d + 2) 55 _ _ hf hp, fields55]
  have p0 : ∀ (u : ByteArray) (g : Gd) (t : Int), (part 9 (ics u g t) 0).run Try.prog w = .ok (.string u) w := fun u g t => by simp [part, isAgg, run_underlying h0, ics]
  have p2 : ∀ (u : ByteArray) (g : Gd) (t : Int), (part 3 (ics u g t) 17).run Try.prog w = .ok (.int .i64 t) w := fun u g t => by simp [part, isAgg, run_underlying Try.underlying3, ics]
  have hsz : ∀ w, (sizeOf 39).run Try.prog w = .ok 16 w := fun w => by kernel_rfl
  have p1 : ∀ (u : ByteArray) (g : Gd) (t : Int), (part 39 (ics u g t) 1).run Try.prog w = .ok (.agg (gcs g)) w := fun u g t => by simp [part, isAgg, run_underlying Try.underlying39, ics, hsz, gcs]
  have q0 : (Op.equalIn (d + 2) 9 (.string u) (.string v)).run Try.prog w = .ok (u.toList == v.toList) w := run_equalIn_string w (d + 1) 9 u v h0
  have q1 : (Op.equalIn (d + 2) 39 (.agg (gcs g)) (.agg (gcs h))).run Try.prog w = .ok (gsame g h) w := run_equalIn_gd w d g h
  have q2 : (Op.equalIn (d + 2) 3 (.int .i64 s) (.int .i64 t)).run Try.prog w = .ok (s == t) w := run_equalIn_int w (d + 1) 3 .i64 .i64 s t Try.underlying3
  have s0 := eqFields_step (P := Try.prog) w (d + 2) (ics u g s) (ics v h t) ⟨"user", 9, 0, false, "", "refectory/keep", 0⟩ [⟨"guid", 39, 1, false, "", "refectory/keep", 16⟩, ⟨"till", 3, 17, false, "", "refectory/keep", 32⟩] (by decide) _ _ _ (p0 u g s) (p0 v h t) q0
  have s1 := eqFields_step (P := Try.prog) w (d + 2) (ics u g s) (ics v h t) ⟨"guid", 39, 1, false, "", "refectory/keep", 16⟩ [⟨"till", 3, 17, false, "", "refectory/keep", 32⟩] (by decide) _ _ _ (p1 u g s) (p1 v h t) q1
  have s2 := eqFields_step (P := Try.prog) w (d + 2) (ics u g s) (ics v h t) ⟨"till", 3, 17, false, "", "refectory/keep", 32⟩ [] (by decide) _ _ _ (p2 u g s) (p2 v h t) q2
  have s3 : (Op.eqFields (d + 2) (ics u g s) (ics v h t) []).run Try.prog w = .ok true w := rfl
  rw [s0, s1, s2, s3]
  cases (u.toList == v.toList) <;> cases gsame g h <;> cases (s == t) <;> rfl
theorem neq_item (w : World) (u v : ByteArray) (g h : Gd) (s t : Int) : (binOp .neq 55 (.agg (ics u g s)) (.agg (ics v h t))).run Try.prog w = .ok (.bool (!((u.toList == v.toList) && gsame g h && (s == t)))) w := by
  rw [run_neq_struct]
  have := eq_item w 9997 u v g h s t
  generalize hd : (9997 + 3 : Nat) = d at this
  rw [show (10000 : Nat) = d by rw [← hd], this]
  rfl
end Go.Proofs.Ytbgjajhnjkldkaa
