/- KeepNil, by a walk: each method of no keep, and of a zero one. -/
import Derived.Test.YtbgjajhnjkldkaaW17
namespace Go.Proofs.Ytbgjajhnjkldkaa
open Go.RowKit Go.WideShapes Go.Maps

theorem off_nil (w : World) : Calls Try.prog 24 #[.pointer none] w fun e w' => e = .returned (.bool true) ∧ w = w' := by
  go_enter Try.func24, Try.ntmps24
  go_wp2
  go_ret
  exact ⟨rfl, rfl⟩
theorem off_zero (w : World) (pb : Nat) (c1 : w.cell? ⟨pb, 0, none⟩ = some (.map none)) : Calls Try.prog 24 #[.pointer (some ⟨pb, 0, none⟩)] w fun e w' => e = .returned (.bool true) ∧ w = w' := by
  have hm := q47
  go_enter Try.func24, Try.ntmps24
  go_wp2
  go_ret
  exact ⟨rfl, rfl⟩
/-- No keep, or a zero one. -/
def OffAt (w : World) (p : Option Addr) : Prop := p = none ∨ ∃ pb, p = some ⟨pb, 0, none⟩ ∧ pb < w.heap.size ∧ w.cell? ⟨pb, 0, none⟩ = some (.map none)
theorem OffAt.below {w w' : World} {p : Option Addr} (h : OffAt w p) (hb : Below w.heap.size w w') : OffAt w' p := by
  rcases h with rfl | ⟨pb, rfl, h1, h2⟩
  · exact Or.inl rfl
  · exact Or.inr ⟨pb, rfl, Nat.lt_of_lt_of_le h1 hb.size, (hb.cell (p := ⟨pb, 0, none⟩) h1).trans h2⟩
theorem off_off (w : World) (p : Option Addr) (h : OffAt w p) : Calls Try.prog 24 #[.pointer p] w fun e w' => e = .returned (.bool true) ∧ w = w' := by
  rcases h with rfl | ⟨pb, rfl, _, h2⟩
  · exact off_nil w
  · exact off_zero w pb h2
theorem has_off (w : World) (p : Option Addr) (k : Int) (h : OffAt w p) : Calls Try.prog 11 #[.pointer p, .int .i64 k] w fun e w' => e = .returned (.bool false) ∧ w = w' := by
  have H := Lib.hid h
  clear h
  go_enter Try.func11, Try.ntmps11
  go_wp2_with fail
  refine (off_off w p H.out).mono ?_
  rintro e w1 ⟨rfl, rfl⟩
  go_wp2_with fail
  go_ret
  exact ⟨rfl, rfl⟩
theorem drop_off (w : World) (p : Option Addr) (k : Int) (h : OffAt w p) : Calls Try.prog 19 #[.pointer p, .int .i64 k] w fun e w' => e = .returned (.bool false) ∧ w = w' := by
  have H := Lib.hid h
  clear h
  go_enter Try.func19, Try.ntmps19
  go_wp2_with fail
  refine (has_off w p k H.out).mono ?_
  rintro e w1 ⟨rfl, rfl⟩
  go_wp2_with fail
  go_ret
  exact ⟨rfl, rfl⟩
theorem len_off (w : World) (p : Option Addr) (h : OffAt w p) : Calls Try.prog 16 #[.pointer p] w fun e w' => e = .returned (.int .i64 0) ∧ w = w' := by
  have H := Lib.hid h
  clear h
  go_enter Try.func16, Try.ntmps16
  go_wp2_with fail
  refine (off_off w p H.out).mono ?_
  rintro e w1 ⟨rfl, rfl⟩
  go_wp2_with fail
  go_ret
  exact ⟨rfl, rfl⟩
theorem late_off (w : World) (p : Option Addr) (t : Int) (h : OffAt w p) : Calls Try.prog 14 #[.pointer p, .int .i64 t] w fun e w' => e = .returned (.slice none 0 0) ∧ w = w' := by
  have H := Lib.hid h
  clear h
  go_enter Try.func14, Try.ntmps14
  go_wp2_with fail
  refine (off_off w p H.out).mono ?_
  rintro e w1 ⟨rfl, rfl⟩
  go_wp2_with fail
  go_ret
  exact ⟨rfl, rfl⟩
theorem put_off (w : World) (p : Option Addr) (k : Int) (u : ByteArray) (g : Gd) (t : Int) (h : OffAt w p) : Calls Try.prog 17 #[.pointer p, .int .i64 k, .string u, .agg (gcs g), .int .i64 t] w fun e w' => e = .returned (.int .i64 1) ∧ Below w.heap.size w w' := by
  have hbl : Below w.heap.size w (w.alloc (.cells (gcs g) 39)) := (Below.refl _ _).alloc (Nat.le_refl _) _
  have HB := Lib.hid hbl
  have H := Lib.hid (h.below hbl)
  clear h hbl
  go_enter Try.func17, Try.ntmps17
  go_wp2_with fail
  generalize w.alloc (.cells (gcs g) 39) = wb at *
  refine (off_off wb p H.out).mono ?_
  rintro e w1 ⟨rfl, rfl⟩
  go_wp2_with fail
  go_ret
  exact ⟨rfl, HB.out⟩
theorem back_off (w : World) (p : Option Addr) (k : Int) (u : ByteArray) (g : Gd) (t : Int) (h : OffAt w p) : Calls Try.prog 18 #[.pointer p, .int .i64 k, .string u, .agg (gcs g), .int .i64 t] w fun e w' => e = .returned (.int .i64 1) ∧ Below w.heap.size w w' := by
  have hbl : Below w.heap.size w (w.alloc (.cells (gcs g) 39)) := (Below.refl _ _).alloc (Nat.le_refl _) _
  have HB := Lib.hid hbl
  have H := Lib.hid (h.below hbl)
  clear h hbl
  go_enter Try.func18, Try.ntmps18
  go_wp2_with fail
  generalize w.alloc (.cells (gcs g) 39) = wb at *
  refine (off_off wb p H.out).mono ?_
  rintro e w1 ⟨rfl, rfl⟩
  go_wp2_with fail
  go_ret
  exact ⟨rfl, HB.out⟩

attribute [-go_sem] Go.Instr.loadAt
theorem blk_load39 {w : World} {gb : Nat} {g : Gd} (h : Blk w gb 39 (gcs g)) : (Instr.loadAt 39 (.pointer (some ⟨gb, 0, none⟩))).run Try.prog w = .ok (.agg (gcs g)) w :=
  run_loadAt_mid w gb 0 39 (gcs g).toList _ (fun j v hj => by rw [Nat.zero_add, h.cell j]; simpa using hj) Try.underlying39 rfl (by kernel_rfl)
set_option maxRecDepth 100000 in
set_option maxHeartbeats 2000000 in
theorem KeepNil_walk (k : Int) (u : ByteArray) (g : Gd) (t : Int) (z : Bool) (w : World) (_ : -9223372036854775808 ≤ k) (_ : k ≤ 9223372036854775807) (_ : u.size ≤ maxLen) (_ : True) (_ : -9223372036854775808 ≤ t) (_ : t ≤ 9223372036854775807) :
    Calls Try.prog 8 #[.int .i64 k, .string u, .agg (gcs g), .int .i64 t, .bool z] w fun e w' => e = .returned (.bool true) ∧ Below w.heap.size w w' := by
  have hb0 : Below w.heap.size w (w.alloc (.cells (gcs g) 39)) := (Below.refl _ _).alloc (Nat.le_refl _) _
  have hg0 : Blk (w.alloc (.cells (gcs g) 39)) w.heap.size 39 (gcs g) := Blk.new _ _ _
  have hb0' : Below w.heap.size w ((w.alloc (.cells (gcs g) 39)).alloc (.cells #[.map none] 49)) := hb0.alloc hb0.size _
  have hsz : (w.alloc (.cells (gcs g) 39)).heap.size = w.heap.size + 1 := by simp
  have hn := Blk.new (w.alloc (.cells (gcs g) 39)) 49 #[.map none]
  rw [hsz] at hn
  have HB := Lib.hid hb0
  have HB' := Lib.hid hb0'
  have HG := Lib.hid hg0
  have HG' : Hid (Blk ((w.alloc (.cells (gcs g) 39)).alloc (.cells #[.map none] 49)) w.heap.size 39 (gcs g)) := hg0.alloc _
  have HO' : Hid (OffAt ((w.alloc (.cells (gcs g) 39)).alloc (.cells #[.map none] 49)) (some ⟨w.heap.size + 1, 0, none⟩)) := Or.inr ⟨_, rfl, hn.lt, hn.cell 0⟩
  have HO : Hid (OffAt (w.alloc (.cells (gcs g) 39)) none) := Or.inl rfl
  have l1 := blk_load39 HG.out
  have l2 := blk_load39 HG'.out
  clear hb0 hg0 hb0' hn hsz
  cases z with
  | false =>
    go_enter Try.func8, Try.ntmps8
    go_wp2_with fail
    refine (put_off _ none k u g t HO.out).mono ?_
    rintro e w1 ⟨rfl, hb1⟩
    have HO1 := Lib.hid (HO.out.below hb1)
    have HG1 : Hid (Blk w1 w.heap.size 39 (gcs g)) := HG.out.below hb1 HG.out.lt
    have HB1 : Hid (Below w.heap.size w w1) := HB.out.trans (hb1.mono HB.out.size)
    have l3 := blk_load39 HG1.out
    clear hb1 l1 l2
    go_wp2_with fail
    refine (back_off _ none k u g t HO1.out).mono ?_
    rintro e w2 ⟨rfl, hb2⟩
    have HO2 := Lib.hid (HO1.out.below hb2)
    have HB2 : Hid (Below w.heap.size w w2) := HB1.out.trans (hb2.mono HB1.out.size)
    clear hb2 l3
    go_wp2_with fail
    refine (has_off _ none k HO2.out).mono ?_
    rintro e w3 ⟨rfl, rfl⟩
    go_wp2_with fail
    refine (drop_off _ none k HO2.out).mono ?_
    rintro e w3 ⟨rfl, rfl⟩
    go_wp2_with fail
    refine (late_off _ none t HO2.out).mono ?_
    rintro e w3 ⟨rfl, rfl⟩
    go_wp2_with fail
    refine (len_off _ none HO2.out).mono ?_
    rintro e w3 ⟨rfl, rfl⟩
    go_wp2_with fail
    refine (works_any _).mono ?_
    rintro e w4 ⟨rfl, hb4⟩
    have HB4 : Hid (Below w.heap.size w w4) := HB2.out.trans (hb4.mono HB2.out.size)
    clear hb4
    go_wp2_with fail
    go_ret
    exact ⟨rfl, HB4.out⟩
  | true =>
    go_enter Try.func8, Try.ntmps8
    go_wp2_with fail
    refine (put_off _ (some ⟨w.heap.size + 1, 0, none⟩) k u g t HO'.out).mono ?_
    rintro e w1 ⟨rfl, hb1⟩
    have HO1 := Lib.hid (HO'.out.below hb1)
    have HG1 : Hid (Blk w1 w.heap.size 39 (gcs g)) := HG'.out.below hb1 HG'.out.lt
    have HB1 : Hid (Below w.heap.size w w1) := HB'.out.trans (hb1.mono HB'.out.size)
    have l3 := blk_load39 HG1.out
    clear hb1 l1 l2
    go_wp2_with fail
    refine (back_off _ (some ⟨w.heap.size + 1, 0, none⟩) k u g t HO1.out).mono ?_
    rintro e w2 ⟨rfl, hb2⟩
    have HO2 := Lib.hid (HO1.out.below hb2)
    have HB2 : Hid (Below w.heap.size w w2) := HB1.out.trans (hb2.mono HB1.out.size)
    clear hb2 l3
    go_wp2_with fail
    refine (has_off _ (some ⟨w.heap.size + 1, 0, none⟩) k HO2.out).mono ?_
    rintro e w3 ⟨rfl, rfl⟩
    go_wp2_with fail
    refine (drop_off _ (some ⟨w.heap.size + 1, 0, none⟩) k HO2.out).mono ?_
    rintro e w3 ⟨rfl, rfl⟩
    go_wp2_with fail
    refine (late_off _ (some ⟨w.heap.size + 1, 0, none⟩) t HO2.out).mono ?_
    rintro e w3 ⟨rfl, rfl⟩
    go_wp2_with fail
    refine (len_off _ (some ⟨w.heap.size + 1, 0, none⟩) HO2.out).mono ?_
    rintro e w3 ⟨rfl, rfl⟩
    go_wp2_with fail
    refine (works_any _).mono ?_
    rintro e w4 ⟨rfl, hb4⟩
    have HB4 : Hid (Below w.heap.size w w4) := HB2.out.trans (hb4.mono HB2.out.size)
    clear hb4
    go_wp2_with fail
    go_ret
    exact ⟨rfl, HB4.out⟩
end Go.Proofs.Ytbgjajhnjkldkaa
