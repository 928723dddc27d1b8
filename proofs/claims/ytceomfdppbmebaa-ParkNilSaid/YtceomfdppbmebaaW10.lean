/- Contract of act, by a walk. -/
import Derived.Test.YtceomfdppbmebaaW9
namespace Go.Proofs.Ytceomfdppbmebaa
open Go.RowKit

/-- Numbers rise, and none is above the last one. -/
def Sane (last : Nat) (S : List It) : Prop := S.Pairwise (fun a b => a.n < b.n) ∧ ∀ it ∈ S, 1 ≤ it.n ∧ it.n ≤ last
theorem Sane.add {last : Nat} {S : List It} (h : Sane last S) (c : Int) (id : Nat) (x : Value) : Sane (last + 1) (S ++ [⟨last + 1, c, id, x⟩]) := by
  refine ⟨List.pairwise_append.2 ⟨h.1, List.pairwise_singleton _ _, fun a ha b hb => ?_⟩, fun it hit => ?_⟩
  · rw [List.mem_singleton.1 hb]; have := (h.2 a ha).2; show a.n < last + 1; omega
  · rcases List.mem_append.1 hit with hit | hit
    · have := h.2 it hit; omega
    · rw [List.mem_singleton.1 hit]; show 1 ≤ last + 1 ∧ last + 1 ≤ last + 1; omega
theorem Sane.sub {last : Nat} {S S' : List It} (h : Sane last S) (hs : S'.Sublist S) : Sane last S' := ⟨h.1.sublist hs, fun it hit => h.2 it (hs.subset hit)⟩
theorem without_sub (p : It → Bool) (S : List It) : (without p S).Sublist S := by
  unfold without
  split
  · exact List.eraseIdx_sublist _ _
  · exact List.Sublist.refl _
theorem partL_sub (c : Int) (S : List It) : (partL c S).Sublist S := List.filter_sublist

/-- BOTH: the park and the document's, of the same things. -/
structure Both (B : Nat) (w : World) (pb rb last : Nat) (S : List It) : Prop where
  p : ∃ ao cap, Pk B w pb last S ao cap
  r : ∃ ao cap, Rp B w rb last S ao cap
  sane : Sane last S
theorem Both.fy {B C : Nat} {w w' : World} {pb rb last : Nat} {S : List It} {ts : List (Option TypeId)} (h : Both B w pb rb last S) (hf : Fy C ts w w') (h1 : some 45 ∉ ts) (h2 : some 60 ∉ ts) (h3 : some 50 ∉ ts) (h4 : some 64 ∉ ts) : Both B w' pb rb last S := by
  obtain ⟨⟨ao, c, hp⟩, ⟨bo, d, hr⟩, hs⟩ := h
  exact ⟨⟨ao, c, hp.fy hf h1 h2⟩, ⟨bo, d, hr.fy hf h3 h4⟩, hs⟩
theorem Both.below {B : Nat} {w w' : World} {pb rb last : Nat} {S : List It} (h : Both B w pb rb last S) (hf : Below w.heap.size w w') : Both B w' pb rb last S := h.fy (Fy.of_below (B := 0) (ts := []) hf) (by simp) (by simp) (by simp) (by simp)

def tall : List (Option TypeId) := [some 45, some 60, some 50, some 64]
theorem tall1 : ∀ t, t ∈ [some 45, some 60] → t ∈ tall := by
  intro t ht
  unfold tall
  simp at ht ⊢
  rcases ht with rfl | rfl <;> simp
theorem tall2 : ∀ t, t ∈ [some 50, some 64] → t ∈ tall := by
  intro t ht
  unfold tall
  simp at ht ⊢
  rcases ht with rfl | rfl <;> simp
theorem foundX_int {S : List It} (hx : ∀ it ∈ S, IsX it.x) (p : It → Bool) : ∃ z e : Int, foundX (.int .i64 0) p S = (.int .i64 z, e) := by
  unfold foundX
  rcases gets_cases p S with ⟨_, hg, _⟩ | ⟨k, it, _, hg, _, _, hk, _⟩
  · rw [hg]; exact ⟨0, 7, rfl⟩
  · rw [hg]
    obtain ⟨z, hz⟩ := hx it (List.mem_of_getElem? hk)
    exact ⟨z, 0, by show (it.x, _) = _; rw [hz]⟩
theorem partX_int {S : List It} (hx : ∀ it ∈ S, IsX it.x) (c : Int) : ∀ v ∈ partX c S, ∃ z : Int, v = .int .i64 z := by
  intro v hv
  unfold partX at hv
  obtain ⟨it, hit, rfl⟩ := List.mem_map.1 hv
  exact hx it (List.mem_filter.1 hit).1

def ActPost (B : Nat) (pb rb last : Nat) (w : World) (e : Ending) (w' : World) : Prop :=
  e = .returned (.bool true) ∧ ∃ last' S', last' ≤ last + 1 ∧ Both B w' pb rb last' S' ∧ Fy B tall w w'

theorem act_add (B : Nat) (w : World) (pb rb last : Nat) (S : List It) (c : Int) (id n : Nat) (x : Int) (h : Both B w pb rb last S) (hB : B ≤ w.heap.size) (hl : last < 900) :
    Calls Try.prog 21 #[.pointer (some ⟨pb, 0, none⟩), .pointer (some ⟨rb, 0, none⟩), .agg #[.int .i64 1, .int .i64 c, .int .u64 (id : Int), .int .u64 (n : Int), .int .i64 x]] w (ActPost B pb rb last w) := by
  have hbl : Below w.heap.size w (w.alloc (.cells #[.int .i64 1, .int .i64 c, .int .u64 (id : Int), .int .u64 (n : Int), .int .i64 x] 53)) := (Below.refl _ _).alloc (Nat.le_refl _) _
  have HB1 := Lib.hid hbl
  have H1 := Lib.hid (h.below hbl)
  have HA : Hid (Blk (w.alloc (.cells #[.int .i64 1, .int .i64 c, .int .u64 (id : Int), .int .u64 (n : Int), .int .i64 x] 53)) w.heap.size 53 #[.int .i64 1, .int .i64 c, .int .u64 (id : Int), .int .u64 (n : Int), .int .i64 x]) := Blk.new _ _ _
  clear hbl h
  go_enter Try.func21, Try.ntmps21
  go_wp2_with fail
  generalize w.alloc (.cells #[.int .i64 1, .int .i64 c, .int .u64 (id : Int), .int .u64 (n : Int), .int .i64 x] 53) = w1 at *
  obtain ⟨⟨ao, cap, hp⟩, ⟨bo, dcap, hr⟩, hs⟩ := H1.out
  have HS := Lib.hid hs
  by_cases hfull : S.length = 32
  · refine (add_full B _ c id pb last (.int .i64 x) S ao cap hp hfull).mono ?_
    rintro e w2 ⟨rfl, rfl⟩
    have k1 := HA.out.cell 1
    have k2 := HA.out.cell 2
    have k4 := HA.out.cell 4
    clear hp
    go_wp2_with fail
    refine (radd_full B _ c id rb last (.int .i64 x) S bo dcap hr hfull).mono ?_
    rintro e w3 ⟨rfl, rfl⟩
    clear hr hs
    go_wp2_with fail
    go_ret
    exact ⟨rfl, last, S, Nat.le_succ _, H1.out, Fy.of_below HB1.out⟩
  · have hlt : S.length < 32 := by have := hp.len; omega
    refine (add_ok B _ c id pb last (.int .i64 x) S ao cap hp (Nat.le_trans hB HB1.out.size) hlt (by omega) ⟨_, rfl⟩).mono ?_
    rintro e w2 ⟨ao', cap', rfl, hp2, hf2⟩
    have HA2 := Lib.hid (HA.out.fy hf2 (by decide))
    have HR2 := Lib.hid (hr.fy hf2 (by decide) (by decide))
    have HP2 := Lib.hid hp2
    have HF2 := Lib.hid hf2
    have k1 : w2.cell? ⟨w.heap.size, 1, none⟩ = some (.int .i64 c) := HA2.out.cell 1
    have k2 : w2.cell? ⟨w.heap.size, 2, none⟩ = some (.int .u64 (id : Int)) := HA2.out.cell 2
    have k4 : w2.cell? ⟨w.heap.size, 4, none⟩ = some (.int .i64 x) := HA2.out.cell 4
    clear hp hr hs hp2 hf2
    go_wp2_with fail
    refine (radd_ok B _ c id rb last (.int .i64 x) S bo dcap HR2.out (Nat.le_trans (Nat.le_trans hB HB1.out.size) HF2.out.size) hlt (by omega) ⟨_, rfl⟩).mono ?_
    rintro e w3 ⟨bo', dcap', rfl, hr3, hf3⟩
    have HP3 := Lib.hid (HP2.out.fy hf3 (by decide) (by decide))
    have HR3 := Lib.hid hr3
    have HF3 : Hid (Fy B tall w w3) := ((Fy.of_below HB1.out).trans (HF2.out.mono tall1)).trans (hf3.mono tall2)
    clear hr3 hf3 k1 k2 k4
    go_wp2_with fail
    go_ret
    exact ⟨rfl, last + 1, _, Nat.le_refl _, ⟨⟨_, _, HP3.out⟩, ⟨_, _, HR3.out⟩, HS.out.add c id _⟩, HF3.out⟩

theorem act_take (B : Nat) (w : World) (pb rb last : Nat) (S : List It) (c : Int) (id n : Nat) (x : Int) (h : Both B w pb rb last S) (hB : B ≤ w.heap.size) :
    Calls Try.prog 21 #[.pointer (some ⟨pb, 0, none⟩), .pointer (some ⟨rb, 0, none⟩), .agg #[.int .i64 2, .int .i64 c, .int .u64 (id : Int), .int .u64 (n : Int), .int .i64 x]] w (ActPost B pb rb last w) := by
  have hbl : Below w.heap.size w (w.alloc (.cells #[.int .i64 2, .int .i64 c, .int .u64 (id : Int), .int .u64 (n : Int), .int .i64 x] 53)) := (Below.refl _ _).alloc (Nat.le_refl _) _
  have HB1 := Lib.hid hbl
  have H1 := Lib.hid (h.below hbl)
  have HA : Hid (Blk (w.alloc (.cells #[.int .i64 2, .int .i64 c, .int .u64 (id : Int), .int .u64 (n : Int), .int .i64 x] 53)) w.heap.size 53 #[.int .i64 2, .int .i64 c, .int .u64 (id : Int), .int .u64 (n : Int), .int .i64 x]) := Blk.new _ _ _
  clear hbl h
  go_enter Try.func21, Try.ntmps21
  go_wp2_with fail
  generalize w.alloc (.cells #[.int .i64 2, .int .i64 c, .int .u64 (id : Int), .int .u64 (n : Int), .int .i64 x] 53) = w1 at *
  obtain ⟨⟨ao, cap, hp⟩, ⟨bo, dcap, hr⟩, hs⟩ := H1.out
  have HS := Lib.hid hs
  have HP := Lib.hid hp
  have HR := Lib.hid hr
  have hB1 : B ≤ w1.heap.size := Nat.le_trans hB HB1.out.size
  clear hs hp hr
  obtain ⟨z, ee, hz0⟩ := foundX_int HP.out.xs (fun it => decide (it.n = n))
  have HZ := Lib.hid hz0
  clear hz0
  refine (take_any B _ n pb last S ao cap HP.out).mono ?_
  rw [HZ.out]
  rintro e w2 ⟨ao', cap', rfl, hp2, hf2⟩
  have HA2 := Lib.hid (HA.out.fy hf2 (by decide))
  have HR2 := Lib.hid (HR.out.fy hf2 (by decide) (by decide))
  have HP2 := Lib.hid hp2
  have HF2 := Lib.hid hf2
  have k3 : w2.cell? ⟨w.heap.size, 3, none⟩ = some (.int .u64 (n : Int)) := HA2.out.cell 3
  clear hp2 hf2
  go_wp2_with fail
  refine (rtake_any B _ n rb last S bo dcap HR2.out (Nat.le_trans hB1 HF2.out.size)).mono ?_
  rw [HZ.out]
  rintro e w3 ⟨bo', dcap', rfl, hr3, hf3⟩
  have HP3 := Lib.hid (HP2.out.fy hf3 (by decide) (by decide))
  have HR3 := Lib.hid hr3
  have HF3 : Hid (Fy B tall w w3) := ((Fy.of_below HB1.out).trans (HF2.out.mono tall1)).trans (hf3.mono tall2)
  clear hr3 hf3 k3
  go_wp2_with fail
  go_ret
  exact ⟨rfl, last, _, Nat.le_succ _, ⟨⟨_, _, HP3.out⟩, ⟨_, _, HR3.out⟩, HS.out.sub (without_sub _ _)⟩, HF3.out⟩

theorem act_find (B : Nat) (w : World) (pb rb last : Nat) (S : List It) (c : Int) (id n : Nat) (x : Int) (h : Both B w pb rb last S) (hB : B ≤ w.heap.size) :
    Calls Try.prog 21 #[.pointer (some ⟨pb, 0, none⟩), .pointer (some ⟨rb, 0, none⟩), .agg #[.int .i64 3, .int .i64 c, .int .u64 (id : Int), .int .u64 (n : Int), .int .i64 x]] w (ActPost B pb rb last w) := by
  have hbl : Below w.heap.size w (w.alloc (.cells #[.int .i64 3, .int .i64 c, .int .u64 (id : Int), .int .u64 (n : Int), .int .i64 x] 53)) := (Below.refl _ _).alloc (Nat.le_refl _) _
  have HB1 := Lib.hid hbl
  have H1 := Lib.hid (h.below hbl)
  have HA : Hid (Blk (w.alloc (.cells #[.int .i64 3, .int .i64 c, .int .u64 (id : Int), .int .u64 (n : Int), .int .i64 x] 53)) w.heap.size 53 #[.int .i64 3, .int .i64 c, .int .u64 (id : Int), .int .u64 (n : Int), .int .i64 x]) := Blk.new _ _ _
  clear hbl h
  go_enter Try.func21, Try.ntmps21
  go_wp2_with fail
  generalize w.alloc (.cells #[.int .i64 3, .int .i64 c, .int .u64 (id : Int), .int .u64 (n : Int), .int .i64 x] 53) = w1 at *
  obtain ⟨⟨ao, cap, hp⟩, ⟨bo, dcap, hr⟩, hs⟩ := H1.out
  have HS := Lib.hid hs
  have HP := Lib.hid hp
  have HR := Lib.hid hr
  have hB1 : B ≤ w1.heap.size := Nat.le_trans hB HB1.out.size
  clear hs hp hr
  obtain ⟨⟨fn, fe⟩, hz0⟩ : ∃ q, foundN (fun it => decide (it.conn = c ∧ it.id = id)) S = q := ⟨_, rfl⟩
  have HZ := Lib.hid hz0
  clear hz0
  refine (find_any B _ c id pb last S ao cap HP.out).mono ?_
  rw [HZ.out]
  rintro e w2 ⟨rfl, hb2⟩
  have hf2 : Fy B tall w1 w2 := Fy.of_below hb2
  have HA2 : Hid (Blk w2 w.heap.size 53 _) := HA.out.fy hf2 (by decide)
  have HR2 := Lib.hid (HR.out.below hb2)
  have HP2 := Lib.hid (HP.out.below hb2)
  have HF2 : Hid (Fy B tall w w2) := (Fy.of_below HB1.out).trans hf2
  have k1 : w2.cell? ⟨w.heap.size, 1, none⟩ = some (.int .i64 c) := HA2.out.cell 1
  have k2 : w2.cell? ⟨w.heap.size, 2, none⟩ = some (.int .u64 (id : Int)) := HA2.out.cell 2
  clear hb2 hf2
  go_wp2_with fail
  refine (rfind_any B _ c id rb last S bo dcap HR2.out).mono ?_
  rw [HZ.out]
  rintro e w3 ⟨rfl, rfl⟩
  clear k1 k2
  go_wp2_with fail
  go_ret
  exact ⟨rfl, last, S, Nat.le_succ _, ⟨⟨_, _, HP2.out⟩, ⟨_, _, HR2.out⟩, HS.out⟩, HF2.out⟩

theorem act_at (B : Nat) (w : World) (pb rb last : Nat) (S : List It) (c : Int) (id n : Nat) (x : Int) (h : Both B w pb rb last S) (hB : B ≤ w.heap.size) :
    Calls Try.prog 21 #[.pointer (some ⟨pb, 0, none⟩), .pointer (some ⟨rb, 0, none⟩), .agg #[.int .i64 5, .int .i64 c, .int .u64 (id : Int), .int .u64 (n : Int), .int .i64 x]] w (ActPost B pb rb last w) := by
  have hbl : Below w.heap.size w (w.alloc (.cells #[.int .i64 5, .int .i64 c, .int .u64 (id : Int), .int .u64 (n : Int), .int .i64 x] 53)) := (Below.refl _ _).alloc (Nat.le_refl _) _
  have HB1 := Lib.hid hbl
  have H1 := Lib.hid (h.below hbl)
  have HA : Hid (Blk (w.alloc (.cells #[.int .i64 5, .int .i64 c, .int .u64 (id : Int), .int .u64 (n : Int), .int .i64 x] 53)) w.heap.size 53 #[.int .i64 5, .int .i64 c, .int .u64 (id : Int), .int .u64 (n : Int), .int .i64 x]) := Blk.new _ _ _
  clear hbl h
  go_enter Try.func21, Try.ntmps21
  go_wp2_with fail
  generalize w.alloc (.cells #[.int .i64 5, .int .i64 c, .int .u64 (id : Int), .int .u64 (n : Int), .int .i64 x] 53) = w1 at *
  obtain ⟨⟨ao, cap, hp⟩, ⟨bo, dcap, hr⟩, hs⟩ := H1.out
  have HS := Lib.hid hs
  have HP := Lib.hid hp
  have HR := Lib.hid hr
  have hB1 : B ≤ w1.heap.size := Nat.le_trans hB HB1.out.size
  clear hs hp hr
  obtain ⟨z, ee, hz0⟩ := foundX_int HP.out.xs (fun it => decide (it.n = n))
  have HZ := Lib.hid hz0
  clear hz0
  refine (at_any B _ n pb last S ao cap HP.out).mono ?_
  rw [HZ.out]
  rintro e w2 ⟨rfl, hb2⟩
  have hf2 : Fy B tall w1 w2 := Fy.of_below hb2
  have HA2 : Hid (Blk w2 w.heap.size 53 _) := HA.out.fy hf2 (by decide)
  have HR2 := Lib.hid (HR.out.below hb2)
  have HP2 := Lib.hid (HP.out.below hb2)
  have HF2 : Hid (Fy B tall w w2) := (Fy.of_below HB1.out).trans hf2
  have k3 : w2.cell? ⟨w.heap.size, 3, none⟩ = some (.int .u64 (n : Int)) := HA2.out.cell 3
  clear hb2 hf2
  go_wp2_with fail
  refine (rat_any B _ n rb last S bo dcap HR2.out).mono ?_
  rw [HZ.out]
  rintro e w3 ⟨rfl, rfl⟩
  clear k3
  go_wp2_with fail
  go_ret
  exact ⟨rfl, last, S, Nat.le_succ _, ⟨⟨_, _, HP2.out⟩, ⟨_, _, HR2.out⟩, HS.out⟩, HF2.out⟩

set_option maxHeartbeats 2000000 in
theorem act_part (B : Nat) (w : World) (pb rb last : Nat) (S : List It) (c : Int) (id n : Nat) (x : Int) (h : Both B w pb rb last S) (hB : B ≤ w.heap.size) :
    Calls Try.prog 21 #[.pointer (some ⟨pb, 0, none⟩), .pointer (some ⟨rb, 0, none⟩), .agg #[.int .i64 4, .int .i64 c, .int .u64 (id : Int), .int .u64 (n : Int), .int .i64 x]] w (ActPost B pb rb last w) := by
  have hbl : Below w.heap.size w (w.alloc (.cells #[.int .i64 4, .int .i64 c, .int .u64 (id : Int), .int .u64 (n : Int), .int .i64 x] 53)) := (Below.refl _ _).alloc (Nat.le_refl _) _
  have HB1 := Lib.hid hbl
  have H1 := Lib.hid (h.below hbl)
  have HA : Hid (Blk (w.alloc (.cells #[.int .i64 4, .int .i64 c, .int .u64 (id : Int), .int .u64 (n : Int), .int .i64 x] 53)) w.heap.size 53 #[.int .i64 4, .int .i64 c, .int .u64 (id : Int), .int .u64 (n : Int), .int .i64 x]) := Blk.new _ _ _
  clear hbl h
  go_enter Try.func21, Try.ntmps21
  go_wp2_with fail
  generalize w.alloc (.cells #[.int .i64 4, .int .i64 c, .int .u64 (id : Int), .int .u64 (n : Int), .int .i64 x] 53) = w1 at *
  obtain ⟨⟨ao, cap, hp⟩, ⟨bo, dcap, hr⟩, hs⟩ := H1.out
  have HS := Lib.hid hs
  have HP := Lib.hid hp
  have HR := Lib.hid hr
  have hB1 : B ≤ w1.heap.size := Nat.le_trans hB HB1.out.size
  clear hs hp hr
  have k1 : w1.cell? ⟨w.heap.size, 1, none⟩ = some (.int .i64 c) := HA.out.cell 1
  have HX := Lib.hid (partX_int HP.out.xs c)
  have HL : Hid ((partX c S).length ≤ 1000) := by
    show _ ≤ _
    unfold partX
    rw [List.length_map]
    have := List.length_filter_le (fun it : It => decide (it.conn = c)) S
    have := HP.out.len
    omega
  have HPd : Hid (Pk B w1.drew pb last S ao cap) := HP.out.below (Below.refl _ _).drew
  have HRd : Hid (Rp B w1.drew rb last S bo dcap) := HR.out.below (Below.refl _ _).drew
  have HAd : Hid (Blk w1.drew w.heap.size 53 #[.int .i64 4, .int .i64 c, .int .u64 (id : Int), .int .u64 (n : Int), .int .i64 x]) := HA.out.drew
  go_region_with (first
    | (go_at_call 16
       first
       | (refine (part_any B w1.drew c pb last S ao cap HPd.out hB1).mono ?_
          rintro e w2 ⟨qo, qc, ao', cap', rfl, hrow1, hp1, hf1⟩
          have HF1 := Lib.hid hf1
          have HR1 := Lib.hid (HRd.out.fy hf1 (by decide) (by decide))
          have HP1 := Lib.hid hp1
          have HQ1 := Lib.hid hrow1
          have k1' : w2.cell? ⟨w.heap.size, 1, none⟩ = some (.int .i64 c) := (HAd.out.fy hf1 (by decide)).cell 1
          clear hp1 hrow1 hf1)
       | (refine (part_any B _ c pb last S ao cap HP1.out (Nat.le_trans hB1 HF1.out.size)).mono ?_
          rintro e w3 ⟨qo, qc, ao', cap', rfl, hrow1, hp1, hf1⟩
          have HF3 : Hid (Fy B tall w w3) := ((Fy.of_below (HB1.out.drew)).trans (HF1.out.mono tall2)).trans (hf1.mono tall1)
          have HRR := Lib.hid (HR1.out.fy hf1 (by decide) (by decide))
          have HPP := Lib.hid hp1
          have HQQ := Lib.hid (HQ1.out.fy hf1 (by decide))
          have HQ := Lib.hid hrow1
          clear hp1 hrow1 hf1))
    | (go_at_call 34
       first
       | (refine (rpart_any B w1.drew c rb last S bo dcap HRd.out hB1).mono ?_
          rintro e w2 ⟨uo, uc, bo', dcap', rfl, hrow1, hp1, hf1⟩
          have HF1 := Lib.hid hf1
          have HP1 := Lib.hid (HPd.out.fy hf1 (by decide) (by decide))
          have HR1 := Lib.hid hp1
          have HQ1 := Lib.hid hrow1
          have k1' : w2.cell? ⟨w.heap.size, 1, none⟩ = some (.int .i64 c) := (HAd.out.fy hf1 (by decide)).cell 1
          clear hp1 hrow1 hf1)
       | (refine (rpart_any B _ c rb last S bo dcap HR1.out (Nat.le_trans hB1 HF1.out.size)).mono ?_
          rintro e w3 ⟨uo, uc, bo', dcap', rfl, hrow1, hp1, hf1⟩
          have HF3 : Hid (Fy B tall w w3) := ((Fy.of_below (HB1.out.drew)).trans (HF1.out.mono tall1)).trans (hf1.mono tall2)
          have HPP := Lib.hid (HP1.out.fy hf1 (by decide) (by decide))
          have HRR := Lib.hid hp1
          have HQ := Lib.hid (HQ1.out.fy hf1 (by decide))
          have HQQ := Lib.hid hrow1
          clear hp1 hrow1 hf1))
    | (go_at_call 33
       refine (ints_same _ _ _ qo uo _ qc uc (partX c S) HQ.out HQQ.out HX.out HL.out).mono ?_
       rintro e w4 ⟨rfl, hb4⟩
       have HP4 := Lib.hid (HPP.out.below hb4)
       have HR4 := Lib.hid (HRR.out.below hb4)
       have HF4 : Hid (Fy B tall w w4) := HF3.out.trans (Fy.of_below hb4)
       clear hb4))
  all_goals
    go_wp2_with fail
    go_ret
    exact ⟨rfl, last, _, Nat.le_succ _, ⟨⟨_, _, HP4.out⟩, ⟨_, _, HR4.out⟩, HS.out.sub (partL_sub _ _)⟩, HF4.out⟩

theorem act_none (B : Nat) (w : World) (pb rb last : Nat) (S : List It) (d : Int) (c : Int) (id n : Nat) (x : Int) (h : Both B w pb rb last S) (h1 : ¬ d = 1) (h2 : ¬ d = 2) (h3 : ¬ d = 3) (h4 : ¬ d = 4) (h5 : ¬ d = 5) :
    Calls Try.prog 21 #[.pointer (some ⟨pb, 0, none⟩), .pointer (some ⟨rb, 0, none⟩), .agg #[.int .i64 d, .int .i64 c, .int .u64 (id : Int), .int .u64 (n : Int), .int .i64 x]] w (ActPost B pb rb last w) := by
  have hbl : Below w.heap.size w (w.alloc (.cells #[.int .i64 d, .int .i64 c, .int .u64 (id : Int), .int .u64 (n : Int), .int .i64 x] 53)) := (Below.refl _ _).alloc (Nat.le_refl _) _
  have HB1 := Lib.hid hbl
  have H1 := Lib.hid (h.below hbl)
  clear hbl h
  have e1 : (d == 1) = false := by simpa using h1
  have e2 : (d == 2) = false := by simpa using h2
  have e3 : (d == 3) = false := by simpa using h3
  have e4 : (d == 4) = false := by simpa using h4
  have e5 : (d == 5) = false := by simpa using h5
  clear h1 h2 h3 h4 h5
  go_enter Try.func21, Try.ntmps21
  go_wp2_with fail
  go_ret
  exact ⟨rfl, last, S, Nat.le_succ _, H1.out, Fy.of_below HB1.out⟩

theorem act_any (B : Nat) (w : World) (pb rb last : Nat) (S : List It) (d : Int) (c : Int) (id n : Nat) (x : Int) (h : Both B w pb rb last S) (hB : B ≤ w.heap.size) (hl : last < 900) :
    Calls Try.prog 21 #[.pointer (some ⟨pb, 0, none⟩), .pointer (some ⟨rb, 0, none⟩), .agg #[.int .i64 d, .int .i64 c, .int .u64 (id : Int), .int .u64 (n : Int), .int .i64 x]] w (ActPost B pb rb last w) := by
  by_cases h1 : d = 1
  · subst h1; exact act_add B w pb rb last S c id n x h hB hl
  by_cases h2 : d = 2
  · subst h2; exact act_take B w pb rb last S c id n x h hB
  by_cases h3 : d = 3
  · subst h3; exact act_find B w pb rb last S c id n x h hB
  by_cases h4 : d = 4
  · subst h4; exact act_part B w pb rb last S c id n x h hB
  by_cases h5 : d = 5
  · subst h5; exact act_at B w pb rb last S c id n x h hB
  exact act_none B w pb rb last S d c id n x h h1 h2 h3 h4 h5
end Go.Proofs.Ytceomfdppbmebaa
