/- Contracts of Len, Drop and Put, by walks. -/
import Derived.Test.YtbgjajhnjkldkaaW2
import Derived.Deep.RegionHeld3
namespace Go.Proofs.Ytbgjajhnjkldkaa
open Go.RowKit Go.WideShapes Go.Maps

theorem len_any (B : Nat) (w : World) (pb mb : Nat) (S : List It) (h : KeepAt B w pb mb S) :
    Calls Try.prog 16 #[.pointer (some ⟨pb, 0, none⟩)] w fun e w' => e = .returned (.int .i64 (S.length : Int)) ∧ w = w' := by
  obtain ⟨M, hp, hd⟩ := h.map
  have hl : (M.map It.kv).length = S.length := by rw [List.length_map, hp.length_eq]
  have HD := Lib.hid hd
  have HL := Lib.hid hl
  have c1 := h.c0
  clear h hp hd hl
  go_enter Try.func16, Try.ntmps16
  go_wp2_with fail
  refine (off_any w pb mb c1).mono ?_
  rintro e w1 ⟨rfl, rfl⟩
  go_wp2_with (at_len; refine wpList_len_dict _ rfl _ 47 rfl 3 55 .i64 Try.underlying47 mb _ rfl HD.out ?_; rw [HL.out])
  go_ret
  exact ⟨rfl, rfl⟩

/-- One less. -/
def delS (S : List It) (k : Int) : List It := S.filter fun x => decide (¬ x.k = k)
theorem KeepAt.del {B : Nat} {w w' : World} {pb mb : Nat} {S : List It} {M : List It} {k : Int} (h : KeepAt B w pb mb S) (hp : M.Perm S) (hf : Fr (fun j => j = mb) w w') (hm : DictAt Try.prog 3 .i64 w' mb (delD (M.map It.kv) k)) : KeepAt B w' pb mb (delS S k) := by
  have e1 : delD (M.map It.kv) k = (delS M k).map It.kv := by
    unfold delD delS
    rw [List.filter_map]
    rfl
  rw [e1] at hm
  exact ⟨h.lowp, h.lowm, h.blk.fr hf h.ne, ⟨_, hp.filter _, hm⟩, h.asc.sublist List.filter_sublist, fun x hx => h.rng x (List.mem_filter.1 hx).1⟩
theorem delS_none {S : List It} {k : Int} (h : findS S k = none) : delS S k = S := List.filter_eq_self.2 fun x hx => by
  have := findS_none h x hx
  simpa using this

def KStep (B pb mb : Nat) (S' : List It) (w w' : World) : Prop := KeepAt B w' pb mb S' ∧ Fr (fun j => j = mb) w w'
theorem drop_any (B : Nat) (w : World) (pb mb : Nat) (S : List It) (k : Int) (h : KeepAt B w pb mb S) (hk : InI k) :
    Calls Try.prog 19 #[.pointer (some ⟨pb, 0, none⟩), .int .i64 k] w fun e w' => e = .returned (.bool (findS S k).isSome) ∧ KStep B pb mb (delS S k) w w' := by
  have H := Lib.hid h
  have HW := Lib.hid (wf_i64 hk)
  obtain ⟨b, hb⟩ : ∃ b, (findS S k).isSome = b := ⟨_, rfl⟩
  have HB := Lib.hid hb
  rw [hb]
  clear h
  cases b with
  | false =>
    have hn : findS S k = none := by simpa using hb
    have HD : Hid (delS S k = S) := delS_none hn
    clear hb hn
    go_enter Try.func19, Try.ntmps19
    go_wp2_with fail
    refine (has_any B w pb mb S k H.out hk).mono ?_
    rw [HB.out]
    rintro e w1 ⟨rfl, hb1⟩
    have HB1 := Lib.hid hb1
    clear hb1
    go_wp2_with fail
    go_ret
    exact ⟨rfl, by rw [HD.out]; exact H.out.below HB1.out, Fr.of_below HB1.out⟩
  | true =>
    clear hb
    go_enter Try.func19, Try.ntmps19
    go_wp2_with fail
    refine (has_any B w pb mb S k H.out hk).mono ?_
    rw [HB.out]
    rintro e w1 ⟨rfl, hb1⟩
    have HB1 := Lib.hid hb1
    have h1 := H.out.below hb1
    have c1 := h1.c0
    obtain ⟨M, hp, hd⟩ := h1.map
    have H1 := Lib.hid h1
    have HP := Lib.hid hp
    have HD := Lib.hid hd
    clear hb1 h1 hp hd
    go_wp2_with (at_delete; refine wpList_delete_dict _ rfl _ _ 47 3 rfl 55 .i64 Try.underlying3 Try.underlying47 mb _ rfl HD.out k rfl HW.out ?_)
    intro w2 hm2 hf2
    have HF : Hid (KStep B pb mb (delS S k) w w2) := ⟨H1.out.del HP.out hf2 hm2, (Fr.of_below HB1.out).step hf2⟩
    clear hm2 hf2
    go_wp2_with fail
    go_ret
    exact ⟨rfl, HF.out⟩

/-- One more. -/
def putS (S : List It) (x : It) : List It := S.takeWhile (fun y => decide (y.k < x.k)) ++ x :: S.dropWhile (fun y => decide (y.k < x.k))

attribute [-go_sem] Go.Instr.build
theorem build_item (w : World) (u : ByteArray) (g : Gd) (t : Int) : (Instr.build 55 #[(0, .string u), (1, .agg (gcs g)), (2, .int .i64 t)]).run Try.prog w = .ok (.agg (ics u g t)) w := by kernel_rfl
theorem putS_perm (S : List It) (x : It) : (putS S x).Perm (x :: S) := by
  unfold putS
  refine List.perm_middle.trans ?_
  rw [List.takeWhile_append_dropWhile]
theorem putS_asc : ∀ {S : List It} {x : It}, (S.Pairwise fun x y => x.k < y.k) → (∀ y ∈ S, y.k ≠ x.k) → (putS S x).Pairwise fun x y => x.k < y.k
  | [], x, _, _ => by simp [putS]
  | y :: S, x, h, hn => by
    obtain ⟨h1, h2⟩ := List.pairwise_cons.1 h
    by_cases hy : y.k < x.k
    · have e : putS (y :: S) x = y :: putS S x := by simp [putS, hy]
      rw [e]
      refine List.pairwise_cons.2 ⟨fun z hz => ?_, putS_asc h2 (fun z hz => hn z (List.mem_cons_of_mem _ hz))⟩
      rcases List.mem_cons.1 ((putS_perm S x).mem_iff.1 hz) with rfl | hz
      · exact hy
      · exact h1 z hz
    · have e : putS (y :: S) x = x :: y :: S := by simp [putS, hy]
      rw [e]
      have hne := hn y (List.mem_cons_self)
      refine List.pairwise_cons.2 ⟨fun z hz => ?_, h⟩
      rcases List.mem_cons.1 hz with rfl | hz
      · omega
      · have := h1 z hz; omega
theorem KeepAt.add {B : Nat} {w w' : World} {pb mb : Nat} {S : List It} {M : List It} {x : It} (h : KeepAt B w pb mb S) (hp : M.Perm S) (hk : InI x.k) (hn : findS S x.k = none) (hf : Fr (fun j => j = mb) w w') (hm : DictAt Try.prog 3 .i64 w' mb (M.map It.kv ++ [(x.k, x.val)])) : KeepAt B w' pb mb (putS S x) := by
  refine ⟨h.lowp, h.lowm, h.blk.fr hf h.ne, ⟨M ++ [x], ?_, by rw [List.map_append]; exact hm⟩, putS_asc h.asc (findS_none hn), fun y hy => ?_⟩
  · exact (List.perm_append_comm.trans (List.Perm.cons x hp)).trans (putS_perm S x).symm
  · rcases List.mem_cons.1 ((putS_perm S x).mem_iff.1 hy) with rfl | hy
    · exact hk
    · exact h.rng y hy
set_option maxRecDepth 100000 in
set_option maxHeartbeats 1000000 in
theorem put_ok (B : Nat) (w : World) (pb mb : Nat) (S : List It) (k : Int) (u : ByteArray) (g : Gd) (t : Int) (h : KeepAt B w pb mb S) (hk : InI k) (hn : findS S k = none) (hl : S.length < 100000) (t1 : -1000000 ≤ t) (t2 : t ≤ 1000000) :
    Calls Try.prog 17 #[.pointer (some ⟨pb, 0, none⟩), .int .i64 k, .string u, .agg (gcs g), .int .i64 t] w fun e w' => e = .returned (.int .i64 0) ∧ KStep B pb mb (putS S ⟨k, u, g, t + 5⟩) w w' := by
  have hbl : Below w.heap.size w (w.alloc (.cells (gcs g) 39)) := (Below.refl _ _).alloc (Nat.le_refl _) _
  have HB0 := Lib.hid hbl
  have H := Lib.hid (h.below hbl)
  have HG : Hid (Blk (w.alloc (.cells (gcs g) 39)) w.heap.size 39 (gcs g)) := Blk.new _ _ _
  have c0 := (h.below hbl).c0
  have hi39 : (Try.prog.info? 39).map (·.size) = some (gcs g).toList.length := by kernel_rfl
  have hu39 := Try.underlying39
  have HB : Hid ((findS S k).isSome = false) := by show _ = _; rw [hn]; rfl
  have HN := Lib.hid hn
  have HW := Lib.hid (wf_i64 hk)
  clear h hn hbl
  go_enter Try.func17, Try.ntmps17
  go_wp2_with fail
  generalize w.alloc (.cells (gcs g) 39) = wb at *
  refine (off_any wb pb mb c0).mono ?_
  rintro e w1 ⟨rfl, rfl⟩
  go_wp2_with fail
  refine (has_any B wb pb mb S k H.out hk).mono ?_
  rw [HB.out]
  rintro e w1 ⟨rfl, hb1⟩
  have HB1 := Lib.hid hb1
  have h1 := H.out.below hb1
  have c1 := h1.c0
  have hg1 : Blk w1 w.heap.size 39 (gcs g) := HG.out.below hb1 HG.out.lt
  have hr1 : w1.rangeAt w.heap.size 0 (gcs g).toList := fun j v hj => by rw [Nat.zero_add, hg1.cell j]; simpa using hj
  obtain ⟨M, hp, hd⟩ := h1.map
  have H1 := Lib.hid h1
  have HP := Lib.hid hp
  have HD : Hid (DictAt Try.prog 3 .i64 w1.drew mb (M.map It.kv)) := hd
  clear hb1 h1 hp hd c0
  have i1 : IntKind.i64.wrap (t + 5) = t + 5 := IntWalk.i64_in _ (by omega)
  have hbld : ∀ w, (Instr.build 55 #[(0, .string u), (1, .agg (gcs g)), (2, .int .i64 (t + 5))]).run Try.prog w = .ok (.agg (ics u g (t + 5))) w := fun w => build_item w u g (t + 5)
  have hbld2 : ∀ w, (Instr.build 55 #[(0, .string u), (1, .agg (gcs g).toList.toArray), (2, .int .i64 (t + 5))]).run Try.prog w = .ok (.agg (ics u g (t + 5))) w := fun w => build_item w u g (t + 5)
  have hone : ∀ v ∈ (gcs g).toList, v.oneCell' = true := by simp [gcs, Value.oneCell']
  have hlen : (gcs g).toList.length = 16 := rfl
  have hgn : getD (M.map It.kv) k = none := by rw [get_kv, find_perm HP.out H1.out.asc k, HN.out]; rfl
  have hml : (M.map It.kv).length < 1000000 := by rw [List.length_map, HP.out.length_eq]; omega
  obtain ⟨w5, hrun, hm5, hf5⟩ := dict_put w1.drew Try.underlying3 Try.underlying47 HD.out HW.out hgn hml (.agg (ics u g (t + 5)))
  have hfd : Fr (fun j => j = mb) w1 w5 := ((Fr.refl (fun j => j = mb) w1).drew).step hf5
  have HF : Hid (KStep B pb mb (putS S ⟨k, u, g, t + 5⟩) w w5) := ⟨H1.out.add HP.out hk HN.out hfd hm5, ((Fr.of_below (T := fun j => j = mb) HB0.out).step (Fr.of_below HB1.out)).step hfd⟩
  have hc5 : w5.cell? ⟨pb, 0, none⟩ = some (.map (some mb)) := HF.out.1.c0
  have hr5 : w5.rangeAt w.heap.size 0 (gcs g).toList := fun j v hj => by
    have hne : w.heap.size ≠ mb := by
      obtain ⟨M2, _, hd2⟩ := H1.out.map
      exact Blk.ne_dict hg1 hd2
    rw [Nat.zero_add, (hg1.fr hfd hne).cell j]; simpa using hj
  clear hgn hml hm5 hf5 hfd
  go_wp2_with fail
  go_region_held3 (fun w' => w'.cell? ⟨pb, 0, none⟩ = some (.map (some mb)) ∧ w'.rangeAt w.heap.size 0 (gcs g).toList) (go_keep_ranges) (fail)
  all_goals
    go_wp2_with fail
    go_ret
    exact ⟨rfl, HF.out⟩
end Go.Proofs.Ytbgjajhnjkldkaa
