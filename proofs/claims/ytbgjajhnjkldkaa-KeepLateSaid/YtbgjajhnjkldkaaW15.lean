/- Contract of works, by a walk. -/
import Derived.Test.YtbgjajhnjkldkaaW14
namespace Go.Proofs.Ytbgjajhnjkldkaa
open Go.RowKit Go.WideShapes Go.Maps

def g1 : Gd := fun i => if i = 0 then 1 else 0
def x1 : It := ⟨3, ⟨#[117]⟩, g1, 10 + 5⟩
theorem pt1 : putR [] x1 = (0, [x1]) := by kernel_rfl
theorem bk1 : backR [x1] 3 ⟨#[118]⟩ g1 11 = (7, [x1]) := by kernel_rfl
theorem bk2 : backR [x1] 3 ⟨#[117]⟩ g1 15 = (7, [x1]) := by kernel_rfl
theorem bk3 : backR [x1] 3 ⟨#[117]⟩ g1 14 = (0, []) := by kernel_rfl
theorem bk4 : backR [] 3 ⟨#[117]⟩ g1 14 = (7, []) := by kernel_rfl
theorem lt1 : lateS [x1] 15 = [3] := by kernel_rfl
theorem build39 (w : World) : (Instr.build 39 #[(0, .int .u8 1)]).run Try.prog w = .ok (.agg (gcs g1)) w := by kernel_rfl
theorem info39 : (Try.prog.info? 39).map (·.size) = some 16 := by kernel_rfl
theorem gcs_one (g : Gd) : (gcs g).all (·.oneCell') = true := by simp [gcs, Value.oneCell']
theorem KStep.bel {B pb mb : Nat} {S : List It} {w w' : World} (h : KStep B pb mb S w w') (hB : B ≤ w.heap.size) : Below B w w' :=
  ⟨h.2.os, h.2.tape, h.2.output, h.2.size, fun k hk => h.2.block k (by omega) (fun e => by have := h.1.lowm; omega)⟩
attribute [-go_sem] Go.Instr.build Go.Instr.loadAt
attribute [local go_sem] build39

set_option maxRecDepth 100000 in
set_option maxHeartbeats 2000000 in
theorem works_any (w : World) : Calls Try.prog 10 #[] w fun e w' => e = .returned (.bool true) ∧ Below w.heap.size w w' := by
  go_enter Try.func10, Try.ntmps10
  go_wp2_with fail
  refine (new_any w).mono ?_
  rintro e w1 ⟨pb, mb, rfl, hk1, hb1⟩
  have HK1 := Lib.hid hk1
  have HB1 := Lib.hid hb1
  have HB0 : Hid (Blk (w1.alloc (.cells (gcs fun _ => 0) 39)) w1.heap.size 39 (gcs fun _ => 0)) := Blk.new _ _ _
  clear hk1 hb1
  go_wp2_with (refine wpList_store_blk rfl 39 (.tmp 2) (.tmp 10) rfl w1.heap.size 39 _ (gcs g1) rfl rfl HB0.out rfl info39 (gcs_one _) ?_)
  intro w2 hb2 hf2
  have hB2 : Below w1.heap.size w1 w2 := ((Fr.refl none0 w1).alloc _ |>.trans (hf2.mono (T' := fun k => w1.heap.size ≤ k) (fun k _ e => by omega)) (fun k hk h => absurd hk (Nat.not_lt_of_le h))).below (Nat.le_refl _) (fun _ h => h.elim)
  have HK2 := Lib.hid (HK1.out.below hB2)
  have HB2 : Hid (Below w.heap.size w w2) := HB1.out.trans (hB2.mono HB1.out.size)
  have HG2 := Lib.hid hb2
  have hgm : w1.heap.size ≠ mb := Blk.ne_dict hb2 (HK1.out.below hB2).map.choose_spec.2
  have l39 : (Instr.loadAt 39 (.pointer (some ⟨w1.heap.size, 0, none⟩))).run Try.prog w2 = .ok (.agg (gcs g1)) w2 := run_loadAt_mid w2 w1.heap.size 0 39 (gcs g1).toList _ (fun j v hj => by rw [Nat.zero_add, hb2.cell j]; simpa using hj) Try.underlying39 rfl (by kernel_rfl)
  generalize w1.heap.size = gb at *
  clear hB2 hb2 hf2
  go_wp2_with fail
  have hl2 := HB2.out.size
  refine (put_any w.heap.size w2 pb mb [] 3 ⟨#[117]⟩ g1 10 HK2.out (by unfold InI; omega) (by decide) (by omega) (by omega)).mono ?_
  have hp1 := pt1
  unfold x1 at hp1
  rw [hp1]
  rintro e w3 ⟨rfl, hs3⟩
  have HK3 := Lib.hid hs3.1
  have HB3 : Hid (Below w.heap.size w w3) := HB2.out.trans (hs3.bel HB2.out.size)
  have hg3 := HG2.out.fr hs3.2 hgm
  have HG3 := Lib.hid hg3
  have hr3 : w3.rangeAt gb 0 (gcs g1).toList := fun j v hj => by rw [Nat.zero_add, hg3.cell j]; simpa using hj
  have hi39 : (Try.prog.info? 39).map (·.size) = some (gcs g1).toList.length := by kernel_rfl
  have hu39 := Try.underlying39
  have hone : ∀ v ∈ (gcs g1).toList, v.oneCell' = true := by simp [gcs, Value.oneCell']
  have hlen : (gcs g1).toList.length = 16 := rfl
  clear hs3 hg3 l39
  go_wp2_with fail
  have HK3d : Hid (KeepAt w.heap.size w3.drew pb mb [x1]) := (HK3.out.below (Below.refl _ _).drew : KeepAt w.heap.size w3.drew pb mb [x1])
  have c3 := HK3.out.c0
  refine wp_region_held_drew (S := fun w' => w'.cell? ⟨pb, 0, none⟩ = some (.map (some mb)) ∧ w'.rangeAt gb 0 (gcs g1).toList) (by kernel_rfl) ?_ (fun hHeld => ?_)
  · exact ⟨c3, hr3⟩
  refine wpAnyH_take (i := 0) (v := .pointer (some ⟨pb, 0, none⟩)) rfl (by kernel_rfl) (by kernel_rfl) (by kernel_rfl) (fun _ _ _ h => h) (Or.inl ⟨by rfl, ?_⟩) hHeld ?_
  · intro w hSw
    try dsimp only at hSw
    go_simp
  try simp only [Act.put, List.setIfInBounds_toArray]
  refine wpAnyH_take (i := 1) (v := .agg ((gcs g1).toList).toArray) rfl (by kernel_rfl) (by kernel_rfl) (by kernel_rfl) (fun _ _ _ h => h) (yieldsIf_load_mid (by rfl) 39 (.tmp 2) rfl gb 0 rfl ((gcs g1).toList) _ (fun _ hs => hs.2) Try.underlying39 rfl hi39) hHeld ?_
  try simp only [Act.put]
  refine wpAnyH_take (i := 3) (v := .pointer (some ⟨pb, 0, none⟩)) rfl (by kernel_rfl) (by kernel_rfl) (by kernel_rfl) (fun _ _ _ h => h) (Or.inl ⟨by rfl, ?_⟩) hHeld ?_
  · intro w hSw
    try dsimp only at hSw
    go_simp
  try simp only [Act.put]
  refine wpAnyH_take (i := 4) (v := .agg ((gcs g1).toList).toArray) rfl (by kernel_rfl) (by kernel_rfl) (by kernel_rfl) (fun _ _ _ h => h) (yieldsIf_load_mid (by rfl) 39 (.tmp 2) rfl gb 0 rfl ((gcs g1).toList) _ (fun _ hs => hs.2) Try.underlying39 rfl hi39) hHeld ?_
  try simp only [Act.put]
  refine wpAnyH_ready (rs := [2]) (by kernel_rfl) (by simp) ?_
  refine AllReadyH.cons rfl (fun K hK => ?_) AllReadyH.nil
  clear hHeld
  go_simp
  refine (back_any w.heap.size w3.drew pb mb [x1] 3 _ _ _ HK3d.out (by unfold InI; omega)).mono ?_
  rw [bk1]
  rintro e w4 ⟨rfl, hs4⟩
  have HK4 := Lib.hid hs4.1
  have c4 := hs4.1.c0
  have HF4 : Hid (Fr (fun j => j = mb) w3 w4) := ((Fr.refl (fun j => j = mb) w3).drew).step hs4.2
  have hr4 : w4.rangeAt gb 0 (gcs g1).toList := fun j v hj => by rw [Nat.zero_add, (HG3.out.fr HF4.out hgm).cell j]; simpa using hj
  clear hs4
  refine hK.out _ _ ⟨c4, hr4⟩ (fun hHeld => ?_)
  clear hK K
  refine wpAnyH_ready (rs := [5]) (by kernel_rfl) (by simp) ?_
  refine AllReadyH.cons rfl (fun K hK => ?_) AllReadyH.nil
  clear hHeld
  go_simp
  refine (back_any w.heap.size w4 pb mb [x1] 3 _ _ _ HK4.out (by unfold InI; omega)).mono ?_
  rw [bk2]
  rintro e w5 ⟨rfl, hs5⟩
  have HK5 := Lib.hid hs5.1
  have c5 := hs5.1.c0
  have HF5 : Hid (Fr (fun j => j = mb) w3 w5) := HF4.out.step hs5.2
  have hr5 : w5.rangeAt gb 0 (gcs g1).toList := fun j v hj => by rw [Nat.zero_add, (HG3.out.fr HF5.out hgm).cell j]; simpa using hj
  clear hs5
  refine hK.out _ _ ⟨c5, hr5⟩ (fun hHeld => ?_)
  clear hK K
  refine wpAnyH_take (i := 6) (v := .int .i64 7) rfl (by kernel_rfl) (by kernel_rfl) (by kernel_rfl) (fun _ _ _ h => h) (Or.inl ⟨by rfl, ?_⟩) hHeld ?_
  · intro w hSw
    try dsimp only at hSw
    go_simp
  try simp only [Act.put, List.setIfInBounds_toArray]
  refine wpAnyH_take (i := 7) (v := .int .i64 7) rfl (by kernel_rfl) (by kernel_rfl) (by kernel_rfl) (fun _ _ _ h => h) (Or.inl ⟨by rfl, ?_⟩) hHeld ?_
  · intro w hSw
    try dsimp only at hSw
    go_simp
  try simp only [Act.put]
  refine wpAnyH_done (by kernel_rfl) ?_ _
  have HB5 : Hid (Below w.heap.size w w5) := HB3.out.trans ((HF5.out.mono (T' := fun k => w.heap.size ≤ k) (fun k _ e => by have := HK3.out.lowm; omega)).below (B := w.heap.size) HB3.out.size (fun _ h => h))
  have HG5 : Hid (Blk w5 gb 39 (gcs g1)) := HG3.out.fr HF5.out hgm
  clear hHeld hr4 c4 hr5 c5 hr3 c3
  go_wp2_with fail
  refine (late_any w.heap.size w5 pb mb [x1] 15 HK5.out (by decide)).mono ?_
  rw [lt1]
  rintro e w6 ⟨ro, rc, rfl, hr6, hb6⟩
  have HK6 := Lib.hid (HK5.out.below hb6)
  have HB6 : Hid (Below w.heap.size w w6) := HB5.out.trans (hb6.mono HB5.out.size)
  have HG6 : Hid (Blk w6 gb 39 (gcs g1)) := HG5.out.below hb6 HG5.out.lt
  have HR6 := Lib.hid hr6
  have HNM : Hid (¬ rowOf ro mb) := fun h => by
    have h1 := (hr6.tag mb HK6.out.mlt h).1
    have h2 := HK5.out.mlt
    omega
  have hr6 : w6.rangeAt gb 0 (gcs g1).toList := fun j v hj => by rw [Nat.zero_add, HG6.out.cell j]; simpa using hj
  clear hb6
  go_wp2_with fail
  have HK6d : Hid (KeepAt w.heap.size w6.drew pb mb [x1]) := (HK6.out.below (Below.refl _ _).drew : KeepAt w.heap.size w6.drew pb mb [x1])
  have c6 := HK6.out.c0
  refine wp_region_held_drew (S := fun w' => w'.cell? ⟨pb, 0, none⟩ = some (.map (some mb)) ∧ w'.rangeAt gb 0 (gcs g1).toList) (by kernel_rfl) ?_ (fun hHeld => ?_)
  · exact ⟨c6, hr6⟩
  refine wpAnyH_take (i := 0) (v := .pointer (some ⟨pb, 0, none⟩)) rfl (by kernel_rfl) (by kernel_rfl) (by kernel_rfl) (fun _ _ _ h => h) (Or.inl ⟨by rfl, ?_⟩) hHeld ?_
  · intro w hSw
    try dsimp only at hSw
    go_simp
  try simp only [Act.put, List.setIfInBounds_toArray]
  refine wpAnyH_take (i := 1) (v := .agg ((gcs g1).toList).toArray) rfl (by kernel_rfl) (by kernel_rfl) (by kernel_rfl) (fun _ _ _ h => h) (yieldsIf_load_mid (by rfl) 39 (.tmp 2) rfl gb 0 rfl ((gcs g1).toList) _ (fun _ hs => hs.2) Try.underlying39 rfl hi39) hHeld ?_
  try simp only [Act.put]
  refine wpAnyH_take (i := 3) (v := .pointer (some ⟨pb, 0, none⟩)) rfl (by kernel_rfl) (by kernel_rfl) (by kernel_rfl) (fun _ _ _ h => h) (Or.inl ⟨by rfl, ?_⟩) hHeld ?_
  · intro w hSw
    try dsimp only at hSw
    go_simp
  try simp only [Act.put]
  refine wpAnyH_take (i := 4) (v := .agg ((gcs g1).toList).toArray) rfl (by kernel_rfl) (by kernel_rfl) (by kernel_rfl) (fun _ _ _ h => h) (yieldsIf_load_mid (by rfl) 39 (.tmp 2) rfl gb 0 rfl ((gcs g1).toList) _ (fun _ hs => hs.2) Try.underlying39 rfl hi39) hHeld ?_
  try simp only [Act.put]
  refine wpAnyH_ready (rs := [2]) (by kernel_rfl) (by simp) ?_
  refine AllReadyH.cons rfl (fun K hK => ?_) AllReadyH.nil
  clear hHeld
  go_simp
  refine (back_any w.heap.size w6.drew pb mb [x1] 3 _ _ _ HK6d.out (by unfold InI; omega)).mono ?_
  rw [bk3]
  rintro e w7 ⟨rfl, hs7⟩
  have HK7 := Lib.hid hs7.1
  have c7 := hs7.1.c0
  have HF7 : Hid (Fr (fun j => j = mb) w6 w7) := ((Fr.refl (fun j => j = mb) w6).drew).step hs7.2
  have hr7 : w7.rangeAt gb 0 (gcs g1).toList := fun j v hj => by rw [Nat.zero_add, (HG6.out.fr HF7.out hgm).cell j]; simpa using hj
  clear hs7
  refine hK.out _ _ ⟨c7, hr7⟩ (fun hHeld => ?_)
  clear hK K
  refine wpAnyH_ready (rs := [5]) (by kernel_rfl) (by simp) ?_
  refine AllReadyH.cons rfl (fun K hK => ?_) AllReadyH.nil
  clear hHeld
  go_simp
  refine (back_any w.heap.size w7 pb mb [] 3 _ _ _ HK7.out (by unfold InI; omega)).mono ?_
  rw [bk4]
  rintro e w8 ⟨rfl, hs8⟩
  have HK8 := Lib.hid hs8.1
  have c8 := hs8.1.c0
  have HF8 : Hid (Fr (fun j => j = mb) w6 w8) := HF7.out.step hs8.2
  have hr8 : w8.rangeAt gb 0 (gcs g1).toList := fun j v hj => by rw [Nat.zero_add, (HG6.out.fr HF8.out hgm).cell j]; simpa using hj
  clear hs8
  refine hK.out _ _ ⟨c8, hr8⟩ (fun hHeld => ?_)
  clear hK K
  refine wpAnyH_take (i := 6) (v := .int .i64 0) rfl (by kernel_rfl) (by kernel_rfl) (by kernel_rfl) (fun _ _ _ h => h) (Or.inl ⟨by rfl, ?_⟩) hHeld ?_
  · intro w hSw
    try dsimp only at hSw
    go_simp
  try simp only [Act.put, List.setIfInBounds_toArray]
  refine wpAnyH_take (i := 7) (v := .int .i64 7) rfl (by kernel_rfl) (by kernel_rfl) (by kernel_rfl) (fun _ _ _ h => h) (Or.inl ⟨by rfl, ?_⟩) hHeld ?_
  · intro w hSw
    try dsimp only at hSw
    go_simp
  try simp only [Act.put]
  refine wpAnyH_done (by kernel_rfl) ?_ _
  have HB8 : Hid (Below w.heap.size w w8) := HB6.out.trans ((HF8.out.mono (T' := fun k => w.heap.size ≤ k) (fun k _ e => by have := HK6.out.lowm; omega)).below (B := w.heap.size) HB6.out.size (fun _ h => h))
  have hr8 := HR6.out.fr HF8.out (fun k hk e => HNM.out (by rw [← e]; exact hk))
  have hal : Below w8.heap.size w8 (w8.alloc (.cells #[.int .i64 3] 3)) := (Below.refl _ _).alloc (Nat.le_refl _) _
  have HS1 : Hid (Src (w8.alloc (.cells #[.int .i64 3] 3)) 1 ro 1 (ints [3])) := (hr8.fr (Fr.of_below (T := none0) hal) (fun _ _ h => h)).src
  have HS2 : Hid (Src (w8.alloc (.cells #[.int .i64 3] 3)) 1 (some ⟨w8.heap.size, 0, none⟩) 1 (ints [3])) := by
    refine ⟨rfl, fun j u hj => ⟨w8.heap.size, 0, rfl, by simp, ?_⟩⟩
    rw [Nat.zero_add, (Blk.new w8 3 #[.int .i64 3]).cell j]
    simpa [ints] using hj
  have HB9 : Hid (Below w.heap.size w (w8.alloc (.cells #[.int .i64 3] 3))) := HB8.out.alloc HB8.out.size _
  clear hHeld hr7 c7 hr8 c8 hr6 c6 hal
  go_wp2_with fail
  refine (ints_same _ ro (some ⟨w8.heap.size, 0, none⟩) 1 rc 1 [3] HS1.out HS2.out (by omega)).mono ?_
  rintro e w9 ⟨rfl, hb9⟩
  have HB10 : Hid (Below w.heap.size w w9) := HB9.out.trans (hb9.mono HB9.out.size)
  clear hb9
  go_wp2_with fail
  go_ret
  exact ⟨rfl, HB10.out⟩
end Go.Proofs.Ytbgjajhnjkldkaa
