/- The law ParkNil, by a walk: of no park, and of a zero one. -/
import Derived.Test.YtceomfdppbmebaaW11
namespace Go.Proofs.Ytceomfdppbmebaa
open Go.RowKit

theorem off_nil (w : World) : Calls Try.prog 26 #[.pointer none] w fun e w' => e = .returned (.bool true) ∧ w = w' := by
  go_enter Try.func26, Try.ntmps26
  go_wp2
  go_ret
  exact ⟨rfl, rfl⟩
theorem off_zero (w : World) (pb : Nat) (c0 : w.cell? ⟨pb, 0, none⟩ = some (.bool false)) : Calls Try.prog 26 #[.pointer (some ⟨pb, 0, none⟩)] w fun e w' => e = .returned (.bool true) ∧ w = w' := by
  go_enter Try.func26, Try.ntmps26
  go_wp2
  go_ret
  exact ⟨rfl, rfl⟩

/-- v is no park, now and later. -/
def Off (w : World) (a : Option Addr) : Prop := ∀ W, Below w.heap.size w W → Calls Try.prog 26 #[.pointer a] W fun e w' => e = .returned (.bool true) ∧ W = w'
theorem Off.later {w w' : World} {v : Option Addr} (h : Off w v) (hb : Below w.heap.size w w') : Off w' v := fun W hW => h W (hb.trans (hW.mono hb.size))

theorem off_add (w : World) (v : Option Addr) (c : Int) (id : Nat) (x : Int) (h : Off w v) : Calls Try.prog 13 #[.pointer v, .int .i64 c, .int .u64 (id : Int), .int .i64 x] w fun e w' => e = .returned (.tuple #[.int .u64 0, .int .i64 1]) ∧ Below w.heap.size w w' := by
  have H := Lib.hid h
  clear h
  go_enter Try.func13, Try.ntmps13
  go_wp2_with fail
  refine (H.out _ (Below.refl _ _)).mono ?_
  rintro e w1 ⟨rfl, rfl⟩
  go_wp2_with fail
  go_ret2
  exact ⟨rfl, Below.refl _ _⟩
theorem off_look (w : World) (v : Option Addr) (n : Nat) (h : Off w v) : Calls Try.prog 27 #[.pointer v, .int .u64 (n : Int)] w fun e w' => e = .returned (.tuple #[.int .i64 0, .int .i64 1]) ∧ Below w.heap.size w w' := by
  have H := Lib.hid h
  clear h
  go_enter Try.func27, Try.ntmps27
  go_wp2_with fail
  refine (H.out _ ((Below.refl _ _).alloc (Nat.le_refl _) _)).mono ?_
  rintro e w1 ⟨rfl, rfl⟩
  go_wp2_with fail
  go_ret2
  exact ⟨rfl, (Below.refl _ _).alloc (Nat.le_refl _) _⟩
theorem off_take (w : World) (v : Option Addr) (n : Nat) (h : Off w v) : Calls Try.prog 15 #[.pointer v, .int .u64 (n : Int)] w fun e w' => e = .returned (.tuple #[.int .i64 0, .int .i64 1]) ∧ Below w.heap.size w w' := by
  have H := Lib.hid h
  clear h
  go_enter Try.func15, Try.ntmps15
  go_wp2_with fail
  refine (off_look _ v n H.out).mono ?_
  rintro e w1 ⟨rfl, hb⟩
  go_wp2_with fail
  go_ret2
  exact ⟨rfl, hb⟩
theorem off_at (w : World) (v : Option Addr) (n : Nat) (h : Off w v) : Calls Try.prog 14 #[.pointer v, .int .u64 (n : Int)] w fun e w' => e = .returned (.tuple #[.int .i64 0, .int .i64 1]) ∧ Below w.heap.size w w' := by
  have H := Lib.hid h
  clear h
  go_enter Try.func14, Try.ntmps14
  go_wp2_with fail
  refine (off_look _ v n H.out).mono ?_
  rintro e w1 ⟨rfl, hb⟩
  go_wp2_with fail
  go_ret2
  exact ⟨rfl, hb⟩
theorem off_find (w : World) (v : Option Addr) (c : Int) (id : Nat) (h : Off w v) : Calls Try.prog 17 #[.pointer v, .int .i64 c, .int .u64 (id : Int)] w fun e w' => e = .returned (.tuple #[.int .u64 0, .int .i64 1]) ∧ Below w.heap.size w w' := by
  have H := Lib.hid h
  clear h
  go_enter Try.func17, Try.ntmps17
  go_wp2_with fail
  refine (H.out _ (((Below.refl _ _).alloc (Nat.le_refl _) _).alloc (by simp) _)).mono ?_
  rintro e w1 ⟨rfl, rfl⟩
  go_wp2_with fail
  go_ret2
  exact ⟨rfl, ((Below.refl _ _).alloc (Nat.le_refl _) _).alloc (by simp) _⟩
theorem off_part (w : World) (v : Option Addr) (c : Int) (h : Off w v) : Calls Try.prog 16 #[.pointer v, .int .i64 c] w fun e w' => e = .returned (.slice none 0 0) ∧ Below w.heap.size w w' := by
  have H := Lib.hid h
  clear h
  go_enter Try.func16, Try.ntmps16
  go_wp2_with fail
  refine (H.out _ (Below.refl _ _)).mono ?_
  rintro e w1 ⟨rfl, rfl⟩
  go_wp2_with fail
  go_ret
  exact ⟨rfl, Below.refl _ _⟩
theorem off_all (w : World) (v : Option Addr) (h : Off w v) : Calls Try.prog 12 #[.pointer v] w fun e w' => e = .returned (.slice none 0 0) ∧ Below w.heap.size w w' := by
  have H := Lib.hid h
  clear h
  go_enter Try.func12, Try.ntmps12
  go_wp2_with fail
  refine (H.out _ (Below.refl _ _)).mono ?_
  rintro e w1 ⟨rfl, rfl⟩
  go_wp2_with fail
  go_ret
  exact ⟨rfl, Below.refl _ _⟩

set_option maxRecDepth 100000 in
set_option maxHeartbeats 2000000 in
theorem ParkNil_walk (conn : Int) (id n : Nat) (x : Int) (zero : Bool) (w : World) (_ : -9223372036854775808 ≤ conn) (_ : conn ≤ 9223372036854775807) (_ : id < 18446744073709551616) (_ : n < 18446744073709551616) (_ : -9223372036854775808 ≤ x) (_ : x ≤ 9223372036854775807) :
    Calls Try.prog 9 #[.int .i64 conn, .int .u64 (id : Int), .int .u64 (n : Int), .int .i64 x, .bool zero] w fun e w' => e = .returned (.bool true) ∧ Below w.heap.size w w' := by
  have hz : Hid (Below w.heap.size w (w.alloc (.cells #[.bool false, .int .u64 0, .slice none 0 0] 45)) ∧ Off (w.alloc (.cells #[.bool false, .int .u64 0, .slice none 0 0] 45)) (some ⟨w.heap.size, 0, none⟩)) := by
    refine ⟨(Below.refl _ _).alloc (Nat.le_refl _) _, fun W hW => off_zero W _ ?_⟩
    exact (hW.cell (p := ⟨w.heap.size, 0, none⟩) (by simp)).trans ((Blk.new w 45 #[.bool false, .int .u64 0, .slice none 0 0]).cell 0)
  have hn : Hid (Below w.heap.size w w ∧ Off w none) := ⟨Below.refl _ _, fun W _ => off_nil W⟩
  cases zero
  · go_enter Try.func9, Try.ntmps9
    go_wp2_with fail
    refine (off_add _ none conn id x hn.out.2).mono ?_
    have HB0 := Lib.hid hn.out.1
    have HO0 := Lib.hid hn.out.2
    rintro e w1 ⟨rfl, hb1⟩
    have HB1 := Lib.hid (HB0.out.trans (hb1.mono HB0.out.size))
    have HO1 := Lib.hid (HO0.out.later hb1)
    clear hb1 HB0 HO0 hz hn
    go_wp2_with fail
    refine (off_take _ _ n HO1.out).mono ?_
    rintro e w2 ⟨rfl, hb2⟩
    have HB2 := Lib.hid (HB1.out.trans (hb2.mono HB1.out.size))
    have HO2 := Lib.hid (HO1.out.later hb2)
    clear hb2 HB1 HO1
    go_wp2_with fail
    refine (off_find _ _ conn id HO2.out).mono ?_
    rintro e w3 ⟨rfl, hb3⟩
    have HB3 := Lib.hid (HB2.out.trans (hb3.mono HB2.out.size))
    have HO3 := Lib.hid (HO2.out.later hb3)
    clear hb3 HB2 HO2
    go_wp2_with fail
    refine (off_at _ _ n HO3.out).mono ?_
    rintro e w4 ⟨rfl, hb4⟩
    have HB4 := Lib.hid (HB3.out.trans (hb4.mono HB3.out.size))
    have HO4 := Lib.hid (HO3.out.later hb4)
    clear hb4 HB3 HO3
    go_wp2_with fail
    refine (off_part _ _ conn HO4.out).mono ?_
    rintro e w5 ⟨rfl, hb5⟩
    have HB5 := Lib.hid (HB4.out.trans (hb5.mono HB4.out.size))
    have HO5 := Lib.hid (HO4.out.later hb5)
    clear hb5 HB4 HO4
    go_wp2_with fail
    refine (off_all _ _ HO5.out).mono ?_
    rintro e w6 ⟨rfl, hb6⟩
    have HB6 := Lib.hid (HB5.out.trans (hb6.mono HB5.out.size))
    clear hb6 HB5 HO5
    go_wp2_with (first | (go_at_call 11; refine (works_any _).mono ?_; rintro e w9 ⟨rfl, hb9⟩))
    go_ret
    exact ⟨rfl, HB6.out.trans (hb9.mono HB6.out.size)⟩
  · go_enter Try.func9, Try.ntmps9
    go_wp2_with fail
    refine (off_add _ (some ⟨w.heap.size, 0, none⟩) conn id x hz.out.2).mono ?_
    have HB0 := Lib.hid hz.out.1
    have HO0 := Lib.hid hz.out.2
    rintro e w1 ⟨rfl, hb1⟩
    have HB1 := Lib.hid (HB0.out.trans (hb1.mono HB0.out.size))
    have HO1 := Lib.hid (HO0.out.later hb1)
    clear hb1 HB0 HO0 hz hn
    go_wp2_with fail
    refine (off_take _ _ n HO1.out).mono ?_
    rintro e w2 ⟨rfl, hb2⟩
    have HB2 := Lib.hid (HB1.out.trans (hb2.mono HB1.out.size))
    have HO2 := Lib.hid (HO1.out.later hb2)
    clear hb2 HB1 HO1
    go_wp2_with fail
    refine (off_find _ _ conn id HO2.out).mono ?_
    rintro e w3 ⟨rfl, hb3⟩
    have HB3 := Lib.hid (HB2.out.trans (hb3.mono HB2.out.size))
    have HO3 := Lib.hid (HO2.out.later hb3)
    clear hb3 HB2 HO2
    go_wp2_with fail
    refine (off_at _ _ n HO3.out).mono ?_
    rintro e w4 ⟨rfl, hb4⟩
    have HB4 := Lib.hid (HB3.out.trans (hb4.mono HB3.out.size))
    have HO4 := Lib.hid (HO3.out.later hb4)
    clear hb4 HB3 HO3
    go_wp2_with fail
    refine (off_part _ _ conn HO4.out).mono ?_
    rintro e w5 ⟨rfl, hb5⟩
    have HB5 := Lib.hid (HB4.out.trans (hb5.mono HB4.out.size))
    have HO5 := Lib.hid (HO4.out.later hb5)
    clear hb5 HB4 HO4
    go_wp2_with fail
    refine (off_all _ _ HO5.out).mono ?_
    rintro e w6 ⟨rfl, hb6⟩
    have HB6 := Lib.hid (HB5.out.trans (hb6.mono HB5.out.size))
    clear hb6 HB5 HO5
    go_wp2_with (first | (go_at_call 11; refine (works_any _).mono ?_; rintro e w9 ⟨rfl, hb9⟩))
    go_ret
    exact ⟨rfl, HB6.out.trans (hb9.mono HB6.out.size)⟩
end Go.Proofs.Ytceomfdppbmebaa
