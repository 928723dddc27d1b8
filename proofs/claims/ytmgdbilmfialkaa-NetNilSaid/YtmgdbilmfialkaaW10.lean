/- NetNil, by walks over the contracts. -/
import Derived.Test.YtmgdbilmfialkaaW8
namespace Go.Proofs.Ytmgdbilmfialkaa
open Go.RowKit Go.WideShapes

/-- No net, or a zero one. -/
def NoN (w : World) (p : Value) : Prop := p = .pointer none ∨ ∃ b, p = .pointer (some ⟨b, 0, none⟩) ∧ b < w.heap.size ∧ w.cell? ⟨b, 1, none⟩ = some (.map none)
theorem off_no (w : World) (p : Value) (h : NoN w p) : Calls Try.prog 23 #[p] w fun e w' => e = .returned (.bool true) ∧ w = w' := by
  have hm := q44
  rcases h with rfl | ⟨b, rfl, h2, h3⟩
  · go_enter Try.func23, Try.ntmps23
    go_wp2
    go_ret
    exact ⟨rfl, rfl⟩
  · go_enter Try.func23, Try.ntmps23
    go_wp2
    go_ret
    exact ⟨rfl, rfl⟩
theorem at_no (w : World) (p : Value) (k way : Int) (h : NoN w p) : Calls Try.prog 24 #[p, .int .i64 k, .int .i64 way] w fun e w' => e = .returned (.tuple #[.pointer none, .int .i64 1]) ∧ w = w' := by
  have H := Lib.hid h
  clear h
  go_enter Try.func24, Try.ntmps24
  go_wp2_with fail
  refine (off_no w p H.out).mono ?_
  rintro e w2 ⟨rfl, rfl⟩
  go_wp2_with fail
  go_ret2
  exact ⟨rfl, rfl⟩
theorem link_no (w : World) (p : Value) (h : NoN w p) : Calls Try.prog 10 #[p] w fun e w' => e = .returned (.tuple #[.int .i64 0, .int .i64 1]) ∧ w = w' := by
  have H := Lib.hid h
  clear h
  go_enter Try.func10, Try.ntmps10
  go_wp2_with fail
  refine (off_no w p H.out).mono ?_
  rintro e w2 ⟨rfl, rfl⟩
  go_wp2_with fail
  go_ret2
  exact ⟨rfl, rfl⟩
theorem send_no (w : World) (p : Value) (k way : Int) (v : Value) (h : NoN w p) : Calls Try.prog 11 #[p, .int .i64 k, .int .i64 way, v] w fun e w' => e = .returned (.int .i64 1) ∧ w = w' := by
  have H := Lib.hid h
  clear h
  go_enter Try.func11, Try.ntmps11
  go_wp2_with fail
  refine (at_no w p k way H.out).mono ?_
  rintro e w2 ⟨rfl, rfl⟩
  go_wp2_with fail
  go_ret
  exact ⟨rfl, rfl⟩
theorem move_no (w : World) (p : Value) (k way most : Int) (h : NoN w p) : Calls Try.prog 14 #[p, .int .i64 k, .int .i64 way, .int .i64 most] w fun e w' => e = .returned (.tuple #[.slice none 0 0, .int .i64 1]) ∧ w = w' := by
  have H := Lib.hid h
  clear h
  go_enter Try.func14, Try.ntmps14
  go_wp2_with fail
  refine (at_no w p k way H.out).mono ?_
  rintro e w2 ⟨rfl, rfl⟩
  go_wp2_with fail
  go_ret2
  exact ⟨rfl, rfl⟩
theorem cut_no (w : World) (p : Value) (k : Int) (h : NoN w p) : Calls Try.prog 21 #[p, .int .i64 k] w fun e w' => e = .returned (.int .i64 1) ∧ w = w' := by
  have H := Lib.hid h
  clear h
  go_enter Try.func21, Try.ntmps21
  go_wp2_with fail
  refine (at_no w p k 0 H.out).mono ?_
  rintro e w2 ⟨rfl, rfl⟩
  go_wp2_with fail
  go_ret
  exact ⟨rfl, rfl⟩
theorem waits_no (w : World) (p : Value) (k way : Int) (h : NoN w p) : Calls Try.prog 13 #[p, .int .i64 k, .int .i64 way] w fun e w' => e = .returned (.int .i64 0) ∧ w = w' := by
  have H := Lib.hid h
  clear h
  go_enter Try.func13, Try.ntmps13
  go_wp2_with fail
  refine (at_no w p k way H.out).mono ?_
  rintro e w2 ⟨rfl, rfl⟩
  go_wp2_with fail
  go_ret
  exact ⟨rfl, rfl⟩
theorem links_no (w : World) (p : Value) (h : NoN w p) : Calls Try.prog 22 #[p] w fun e w' => e = .returned (.slice none 0 0) ∧ w = w' := by
  have H := Lib.hid h
  clear h
  go_enter Try.func22, Try.ntmps22
  go_wp2_with fail
  refine (off_no w p H.out).mono ?_
  rintro e w2 ⟨rfl, rfl⟩
  go_wp2_with fail
  go_ret
  exact ⟨rfl, rfl⟩

theorem NetNil_walk (k way most : Int) (bo : Option Addr) (bn bc : Nat) (xs : List Value) (zero : Bool) (w : World) (_ : -9223372036854775808 ≤ k) (_ : k ≤ 9223372036854775807) (_ : -9223372036854775808 ≤ way) (_ : way ≤ 9223372036854775807) (_ : -9223372036854775808 ≤ most) (_ : most ≤ 9223372036854775807)
    (_ : Src w 1 bo bn xs ∧ AllB xs ∧ (bo = none → bn = 0 ∧ bc = 0) ∧ True) (_ : bn ≤ 9223372036854775807) :
    Calls Try.prog 5 #[.int .i64 k, .int .i64 way, .int .i64 most, .slice bo bn bc, .bool zero] w fun e w' => e = .returned (.bool true) ∧ Below w.heap.size w w' := by
  cases zero
  · have H1 : Hid (NoN w (.pointer none)) := Or.inl rfl
    go_enter Try.func5, Try.ntmps5
    go_wp2_with fail
    refine (link_no w _ H1.out).mono ?_
    rintro e w2 ⟨rfl, rfl⟩
    go_wp2_with fail
    refine (move_no w _ k way most H1.out).mono ?_
    rintro e w2 ⟨rfl, rfl⟩
    go_wp2_with fail
    refine (send_no w _ k way _ H1.out).mono ?_
    rintro e w2 ⟨rfl, rfl⟩
    go_wp2_with fail
    refine (cut_no w _ k H1.out).mono ?_
    rintro e w2 ⟨rfl, rfl⟩
    go_wp2_with fail
    refine (waits_no w _ k way H1.out).mono ?_
    rintro e w2 ⟨rfl, rfl⟩
    go_wp2_with fail
    refine (links_no w _ H1.out).mono ?_
    rintro e w2 ⟨rfl, rfl⟩
    go_wp2_with fail
    refine (works_any _).mono ?_
    rintro e w6 ⟨rfl, hb6⟩
    go_wp2_with fail
    go_ret
    exact ⟨rfl, hb6⟩
  · have H1 : Hid (NoN (w.alloc (.cells #[.int .i64 0, .map none] 46)) (.pointer (some ⟨w.heap.size, 0, none⟩))) := Or.inr ⟨_, rfl, by simp, (Blk.new w 46 #[.int .i64 0, .map none]).cell 1⟩
    have HB1 : Hid (Below w.heap.size w (w.alloc (.cells #[.int .i64 0, .map none] 46))) := (Below.refl _ _).alloc (Nat.le_refl _) _
    go_enter Try.func5, Try.ntmps5
    go_wp2_with fail
    generalize w.alloc (.cells #[.int .i64 0, .map none] 46) = w1 at *
    refine (link_no w1 _ H1.out).mono ?_
    rintro e w2 ⟨rfl, rfl⟩
    go_wp2_with fail
    refine (move_no w1 _ k way most H1.out).mono ?_
    rintro e w2 ⟨rfl, rfl⟩
    go_wp2_with fail
    refine (send_no w1 _ k way _ H1.out).mono ?_
    rintro e w2 ⟨rfl, rfl⟩
    go_wp2_with fail
    refine (cut_no w1 _ k H1.out).mono ?_
    rintro e w2 ⟨rfl, rfl⟩
    go_wp2_with fail
    refine (waits_no w1 _ k way H1.out).mono ?_
    rintro e w2 ⟨rfl, rfl⟩
    go_wp2_with fail
    refine (links_no w1 _ H1.out).mono ?_
    rintro e w2 ⟨rfl, rfl⟩
    go_wp2_with fail
    refine (works_any _).mono ?_
    rintro e w6 ⟨rfl, hb6⟩
    go_wp2_with fail
    go_ret
    exact ⟨rfl, HB1.out.trans (hb6.mono HB1.out.size)⟩
end Go.Proofs.Ytmgdbilmfialkaa
