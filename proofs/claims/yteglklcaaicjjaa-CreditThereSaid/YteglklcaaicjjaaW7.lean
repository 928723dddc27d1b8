/- CreditNil, by a walk: each method of no window, and of a zero one. -/
import Derived.Test.YteglklcaaicjjaaW4
namespace Go.Proofs.Yteglklcaaicjjaa
open Go.RowKit Go.Maps

/-- No window, or a zero one. -/
def OffAt (w : World) (p : Option Addr) : Prop := p = none ∨ ∃ pb, p = some ⟨pb, 0, none⟩ ∧ w.cell? ⟨pb, 2, none⟩ = some (.map none)
theorem off_off (w : World) (p : Option Addr) (h : OffAt w p) : Calls Try.prog 19 #[.pointer p] w fun e w' => e = .returned (.bool true) ∧ w = w' := by
  rcases h with rfl | ⟨pb, rfl, h2⟩
  · exact off_nil w
  · exact off_zero w pb h2
theorem take_off (w : World) (p : Option Addr) (id c : Int) (h : OffAt w p) : Calls Try.prog 14 #[.pointer p, .int .u64 id, .int .i64 c] w fun e w' => e = .returned (.int .i64 1) ∧ w = w' := by
  have H := Lib.hid h
  clear h
  go_enter Try.func14, Try.ntmps14
  go_wp2_with fail
  refine (off_off w p H.out).mono ?_
  rintro e w1 ⟨rfl, rfl⟩
  go_wp2_with fail
  go_ret
  exact ⟨rfl, rfl⟩
theorem give_off (w : World) (p : Option Addr) (c : Int) (h : OffAt w p) : Calls Try.prog 13 #[.pointer p, .int .i64 c] w fun e w' => e = .returned (.int .i64 0) ∧ w = w' := by
  have H := Lib.hid h
  clear h
  go_enter Try.func13, Try.ntmps13
  go_wp2_with fail
  refine (off_off w p H.out).mono ?_
  rintro e w1 ⟨rfl, rfl⟩
  go_wp2_with fail
  go_ret
  exact ⟨rfl, rfl⟩
theorem has_off (w : World) (p : Option Addr) (h : OffAt w p) : Calls Try.prog 12 #[.pointer p] w fun e w' => e = .returned (.int .i64 0) ∧ w = w' := by
  have H := Lib.hid h
  clear h
  go_enter Try.func12, Try.ntmps12
  go_wp2_with fail
  refine (off_off w p H.out).mono ?_
  rintro e w1 ⟨rfl, rfl⟩
  go_wp2_with fail
  go_ret
  exact ⟨rfl, rfl⟩
theorem next_off (w : World) (p : Option Addr) (h : OffAt w p) : Calls Try.prog 15 #[.pointer p] w fun e w' => e = .returned (.int .u64 0) ∧ w = w' := by
  have H := Lib.hid h
  clear h
  go_enter Try.func15, Try.ntmps15
  go_wp2_with fail
  refine (off_off w p H.out).mono ?_
  rintro e w1 ⟨rfl, rfl⟩
  go_wp2_with fail
  go_ret
  exact ⟨rfl, rfl⟩
theorem all_off (w : World) (p : Option Addr) (h : OffAt w p) : Calls Try.prog 17 #[.pointer p] w fun e w' => e = .returned (.slice none 0 0) ∧ w = w' := by
  have H := Lib.hid h
  clear h
  go_enter Try.func17, Try.ntmps17
  go_wp2_with fail
  refine (off_off w p H.out).mono ?_
  rintro e w1 ⟨rfl, rfl⟩
  go_wp2_with fail
  go_ret
  exact ⟨rfl, rfl⟩

set_option maxRecDepth 100000 in
set_option maxHeartbeats 2000000 in
theorem CreditNil_walk (id : Nat) (c want : Int) (z : Bool) (w : World) (_ : id < 18446744073709551616) (_ : -9223372036854775808 ≤ c) (_ : c ≤ 9223372036854775807) (_ : -9223372036854775808 ≤ want) (_ : want ≤ 9223372036854775807) :
    Calls Try.prog 9 #[.int .u64 (id : Int), .int .i64 c, .int .i64 want, .bool z] w fun e w' => e = .returned (.bool true) ∧ Below w.heap.size w w' := by
  have hb0 : Below w.heap.size w (w.alloc (.cells #[.int .i64 0, .int .u64 0, .map none] 49)) := (Below.refl _ _).alloc (Nat.le_refl _) _
  have HB0 := Lib.hid hb0
  have HZ : Hid (OffAt (w.alloc (.cells #[.int .i64 0, .int .u64 0, .map none] 49)) (some ⟨w.heap.size, 0, none⟩)) := Or.inr ⟨_, rfl, (Blk.new w 49 _).cell 2⟩
  have HN : Hid (OffAt w none) := Or.inl rfl
  clear hb0
  cases z with
  | false =>
    go_enter Try.func9, Try.ntmps9
    go_wp2_with fail
    refine (take_off _ none _ c HN.out).mono ?_
    rintro e w1 ⟨rfl, rfl⟩
    go_wp2_with fail
    refine (give_off _ none want HN.out).mono ?_
    rintro e w1 ⟨rfl, rfl⟩
    go_wp2_with fail
    refine (has_off _ none HN.out).mono ?_
    rintro e w1 ⟨rfl, rfl⟩
    go_wp2_with fail
    refine (next_off _ none HN.out).mono ?_
    rintro e w1 ⟨rfl, rfl⟩
    go_wp2_with fail
    refine (all_off _ none HN.out).mono ?_
    rintro e w1 ⟨rfl, rfl⟩
    go_wp2_with fail
    refine (works_any w).mono ?_
    rintro e w4 ⟨rfl, hb4⟩
    have HB4 := Lib.hid hb4
    clear hb4
    go_wp2_with fail
    go_ret
    exact ⟨rfl, HB4.out⟩
  | true =>
    go_enter Try.func9, Try.ntmps9
    go_wp2_with fail
    generalize w.alloc (.cells #[.int .i64 0, .int .u64 0, .map none] 49) = wz at *
    refine (take_off _ (some ⟨w.heap.size, 0, none⟩) _ c HZ.out).mono ?_
    rintro e w1 ⟨rfl, rfl⟩
    go_wp2_with fail
    refine (give_off _ (some ⟨w.heap.size, 0, none⟩) want HZ.out).mono ?_
    rintro e w1 ⟨rfl, rfl⟩
    go_wp2_with fail
    refine (has_off _ (some ⟨w.heap.size, 0, none⟩) HZ.out).mono ?_
    rintro e w1 ⟨rfl, rfl⟩
    go_wp2_with fail
    refine (next_off _ (some ⟨w.heap.size, 0, none⟩) HZ.out).mono ?_
    rintro e w1 ⟨rfl, rfl⟩
    go_wp2_with fail
    refine (all_off _ (some ⟨w.heap.size, 0, none⟩) HZ.out).mono ?_
    rintro e w1 ⟨rfl, rfl⟩
    go_wp2_with fail
    refine (works_any wz).mono ?_
    rintro e w4 ⟨rfl, hb4⟩
    have HB4 : Hid (Below w.heap.size w w4) := HB0.out.trans (hb4.mono HB0.out.size)
    clear hb4
    go_wp2_with fail
    go_ret
    exact ⟨rfl, HB4.out⟩
end Go.Proofs.Yteglklcaaicjjaa
