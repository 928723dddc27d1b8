/- LockNil, by walks over the contracts. -/
import Derived.Test.YtgcimkbggnjcdaaW21
namespace Go.Proofs.Ytgcimkbggnjcdaa
open Go.RowKit Go.WideShapes

/-- No table, or a zero one. -/
def NoT (w : World) (p : Value) : Prop := p = .pointer none ∨ ∃ b, p = .pointer (some ⟨b, 0, none⟩) ∧ b < w.heap.size ∧ w.cell? ⟨b, 0, none⟩ = some (.bool false)
theorem NoT.below {w w' : World} {p : Value} (h : NoT w p) (hb : Below w.heap.size w w') : NoT w' p := by
  rcases h with h | ⟨b, h1, h2, h3⟩
  · exact Or.inl h
  · exact Or.inr ⟨b, h1, Nat.lt_of_lt_of_le h2 hb.size, (hb.cell (p := ⟨b, 0, none⟩) h2).trans h3⟩
theorem off_no (w : World) (p : Value) (h : NoT w p) : Calls Try.prog 26 #[p] w fun e w' => e = .returned (.bool true) ∧ w = w' := by
  rcases h with rfl | ⟨b, rfl, h2, h3⟩
  · go_enter Try.func26, Try.ntmps26
    go_wp2
    go_ret
    exact ⟨rfl, rfl⟩
  · go_enter Try.func26, Try.ntmps26
    go_wp2
    go_ret
    exact ⟨rfl, rfl⟩
theorem take_no2 (w : World) (p : Value) (op : Int) (v : Value) (h : NoT w p) : Calls Try.prog 15 #[p, .int .i64 op, v] w fun e w' => e = .returned (.int .i64 1) ∧ w = w' := by
  have H := Lib.hid h
  clear h
  go_enter Try.func15, Try.ntmps15
  go_wp2_with fail
  refine (off_no w p H.out).mono ?_
  rintro e w2 ⟨rfl, rfl⟩
  go_wp2_with fail
  go_ret
  exact ⟨rfl, rfl⟩
theorem drop_no (w : World) (p : Value) (op : Int) (a n : Nat) (h : NoT w p) : Calls Try.prog 16 #[p, .int .i64 op, .int .u64 (a : Int), .int .u64 (n : Int)] w fun e w' => e = .returned (.int .i64 1) ∧ w = w' := by
  have H := Lib.hid h
  clear h
  go_enter Try.func16, Try.ntmps16
  go_wp2_with fail
  refine (off_no w p H.out).mono ?_
  rintro e w2 ⟨rfl, rfl⟩
  go_wp2_with fail
  go_ret
  exact ⟨rfl, rfl⟩
theorem close_no (w : World) (p : Value) (op : Int) (h : NoT w p) : Calls Try.prog 23 #[p, .int .i64 op] w fun e w' => e = .returned (.int .i64 0) ∧ Below w.heap.size w w' := by
  have hal : Below w.heap.size w (w.alloc (.cells #[.int .i64 op] 3)) := (Below.refl _ _).alloc (Nat.le_refl _) _
  have H := Lib.hid (h.below hal)
  have HB := Lib.hid hal
  clear h hal
  go_enter Try.func23, Try.ntmps23
  go_wp2_with fail
  generalize w.alloc (.cells #[.int .i64 op] 3) = w1 at *
  refine (off_no w1 p H.out).mono ?_
  rintro e w2 ⟨rfl, rfl⟩
  go_wp2_with fail
  go_ret
  exact ⟨rfl, HB.out⟩
theorem bars_no (w : World) (p : Value) (op : Int) (bw : Bool) (a n : Nat) (h : NoT w p) : Calls Try.prog 14 #[p, .int .i64 op, .bool bw, .int .u64 (a : Int), .int .u64 (n : Int)] w fun e w' => e = .returned (.bool false) ∧ w = w' := by
  have H := Lib.hid h
  clear h
  go_enter Try.func14, Try.ntmps14
  go_wp2_with fail
  refine (off_no w p H.out).mono ?_
  rintro e w2 ⟨rfl, rfl⟩
  go_wp2_with fail
  go_ret
  exact ⟨rfl, rfl⟩
theorem all_no (w : World) (p : Value) (h : NoT w p) : Calls Try.prog 13 #[p] w fun e w' => e = .returned (.slice none 0 0) ∧ w = w' := by
  have H := Lib.hid h
  clear h
  go_enter Try.func13, Try.ntmps13
  go_wp2_with fail
  refine (off_no w p H.out).mono ?_
  rintro e w2 ⟨rfl, rfl⟩
  go_wp2_with fail
  go_ret
  exact ⟨rfl, rfl⟩
theorem of_no (w : World) (p : Value) (op : Int) (h : NoT w p) : Calls Try.prog 21 #[p, .int .i64 op] w fun e w' => e = .returned (.int .i64 0) ∧ w = w' := by
  have H := Lib.hid h
  clear h
  go_enter Try.func21, Try.ntmps21
  go_wp2_with fail
  refine (all_no w p H.out).mono ?_
  rintro e w2 ⟨rfl, rfl⟩
  go_wp2_with fail
  go_loop [5, 7, 11] (fun s5 _ s => s5 = .int .i64 0 ∧ s = .int .i64 0) (fun _ _ _ => 0)
  case atStart => exact ⟨rfl, rfl⟩
  case round =>
    obtain ⟨rfl, rfl⟩ := hrel
    go_wp2_with fail
    go_ret
    exact ⟨rfl, rfl⟩

theorem nil_rest (w : World) (p : Value) (op : Int) (a n : Nat) (bw zero : Bool) (hz : (zero = false ∧ p = .pointer none) ∨ (zero = true ∧ p = .pointer (some ⟨w.heap.size, 0, none⟩))) :
    Calls Try.prog 10 #[.int .i64 op, .int .u64 (a : Int), .int .u64 (n : Int), .bool bw, .bool zero] w fun e w' => e = .returned (.bool true) ∧ Below w.heap.size w w' := by
  rcases hz with ⟨rfl, rfl⟩ | ⟨rfl, rfl⟩
  · have H : NoT w (.pointer none) := Or.inl rfl
    have H1 := Lib.hid H
    have HB1 : Hid (Below w.heap.size w w) := Below.refl _ _
    obtain ⟨w1, hw1⟩ : ∃ w1, w1 = w := ⟨_, rfl⟩
    rw [← hw1] at H1
    clear H
    go_enter Try.func10, Try.ntmps10
    go_wp2_with fail
    rw [← hw1]
    have HB2 : Hid (Below w.heap.size w w1) := by rw [hw1]; exact HB1.out
    clear hw1 HB1
    refine (take_no2 w1 _ op _ H1.out).mono ?_
    rintro e w2 ⟨rfl, rfl⟩
    go_wp2_with fail
    refine (drop_no w1 _ op a n H1.out).mono ?_
    rintro e w2 ⟨rfl, rfl⟩
    go_wp2_with fail
    refine (close_no w1 _ op H1.out).mono ?_
    rintro e w2 ⟨rfl, hb2⟩
    have HB3 : Hid (Below w.heap.size w w2) := HB2.out.trans (hb2.mono HB2.out.size)
    have H2 := Lib.hid (H1.out.below hb2)
    clear hb2
    go_wp2_with fail
    refine (bars_no w2 _ op bw a n H2.out).mono ?_
    rintro e w3 ⟨rfl, rfl⟩
    go_wp2_with fail
    refine (all_no w2 _ H2.out).mono ?_
    rintro e w3 ⟨rfl, rfl⟩
    go_wp2_with fail
    refine (of_no w2 _ op H2.out).mono ?_
    rintro e w3 ⟨rfl, rfl⟩
    go_wp2_with fail
    refine (works_any _).mono ?_
    rintro e w6 ⟨rfl, hb6⟩
    go_wp2_with fail
    go_ret
    exact ⟨rfl, HB3.out.trans (hb6.mono HB3.out.size)⟩
  · have H : NoT (w.alloc (.cells #[.bool false, .slice none 0 0] 50)) (.pointer (some ⟨w.heap.size, 0, none⟩)) := Or.inr ⟨_, rfl, by simp, (Blk.new w 50 #[.bool false, .slice none 0 0]).cell 0⟩
    have H1 := Lib.hid H
    have HB1 : Hid (Below w.heap.size w (w.alloc (.cells #[.bool false, .slice none 0 0] 50))) := (Below.refl _ _).alloc (Nat.le_refl _) _
    clear H
    go_enter Try.func10, Try.ntmps10
    go_wp2_with fail
    generalize w.alloc (.cells #[.bool false, .slice none 0 0] 50) = w1 at *
    refine (take_no2 w1 _ op _ H1.out).mono ?_
    rintro e w2 ⟨rfl, rfl⟩
    go_wp2_with fail
    refine (drop_no w1 _ op a n H1.out).mono ?_
    rintro e w2 ⟨rfl, rfl⟩
    go_wp2_with fail
    refine (close_no w1 _ op H1.out).mono ?_
    rintro e w2 ⟨rfl, hb2⟩
    have HB3 : Hid (Below w.heap.size w w2) := HB1.out.trans (hb2.mono HB1.out.size)
    have H2 := Lib.hid (H1.out.below hb2)
    clear hb2
    go_wp2_with fail
    refine (bars_no w2 _ op bw a n H2.out).mono ?_
    rintro e w3 ⟨rfl, rfl⟩
    go_wp2_with fail
    refine (all_no w2 _ H2.out).mono ?_
    rintro e w3 ⟨rfl, rfl⟩
    go_wp2_with fail
    refine (of_no w2 _ op H2.out).mono ?_
    rintro e w3 ⟨rfl, rfl⟩
    go_wp2_with fail
    refine (works_any _).mono ?_
    rintro e w6 ⟨rfl, hb6⟩
    go_wp2_with fail
    go_ret
    exact ⟨rfl, HB3.out.trans (hb6.mono HB3.out.size)⟩
theorem LockNil_walk (op : Int) (a n : Nat) (bw zero : Bool) (w : World) (_ : -9223372036854775808 ≤ op) (_ : op ≤ 9223372036854775807) (_ : a < 18446744073709551616) (_ : n < 18446744073709551616) :
    Calls Try.prog 10 #[.int .i64 op, .int .u64 (a : Int), .int .u64 (n : Int), .bool bw, .bool zero] w fun e w' => e = .returned (.bool true) ∧ Below w.heap.size w w' := by
  cases zero
  · exact nil_rest w _ op a n bw false (Or.inl ⟨rfl, rfl⟩)
  · exact nil_rest w _ op a n bw true (Or.inr ⟨rfl, rfl⟩)
end Go.Proofs.Ytgcimkbggnjcdaa
