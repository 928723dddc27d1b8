/- Contract of Back, by a walk. -/
import Derived.Test.YtbgjajhnjkldkaaW4
namespace Go.Proofs.Ytbgjajhnjkldkaa
open Go.RowKit Go.WideShapes Go.Maps

def backR (S : List It) (k : Int) (u : ByteArray) (g : Gd) (t : Int) : Int × List It := match findS S k with
  | none => (7, S)
  | some x => if (x.u.toList == u.toList) && gsame x.g g && decide (t < x.t) then (0, delS S k) else (7, S)
theorem load47 {w : World} {b o : Nat} {v : Value} (h : w.cell? ⟨b, o, none⟩ = some v) : (Instr.loadAt 47 (.pointer (some ⟨b, o, none⟩))).run Try.prog w = .ok v w := by
  simp [Instr.loadAt, Instr.sureAddr, loadVar, isAgg, run_underlying Try.underlying47, h]
theorem load3 {w : World} {b o : Nat} {v : Value} (h : w.cell? ⟨b, o, none⟩ = some v) : (Instr.loadAt 3 (.pointer (some ⟨b, o, none⟩))).run Try.prog w = .ok v w := by
  simp [Instr.loadAt, Instr.sureAddr, loadVar, isAgg, run_underlying Try.underlying3, h]
attribute [-go_sem] Go.Instr.build Go.run_neq_struct Go.Instr.loadAt
attribute [local go_sem] load47 load3
set_option maxRecDepth 100000 in
set_option maxHeartbeats 1000000 in
theorem back_some (B : Nat) (w : World) (pb mb : Nat) (S : List It) (k : Int) (u : ByteArray) (g : Gd) (t : Int) (x : It) (h : KeepAt B w pb mb S) (hk : InI k) (hx : findS S k = some x) :
    Calls Try.prog 18 #[.pointer (some ⟨pb, 0, none⟩), .int .i64 k, .string u, .agg (gcs g), .int .i64 t] w fun e w' => e = .returned (.int .i64 (backR S k u g t).1) ∧ KStep B pb mb (backR S k u g t).2 w w' := by
  have hbl : Below w.heap.size w (w.alloc (.cells (gcs g) 39)) := (Below.refl _ _).alloc (Nat.le_refl _) _
  have HB0 := Lib.hid hbl
  have H0 := Lib.hid h
  have H := Lib.hid (h.below hbl)
  have c0 := (h.below hbl).c0
  have HG : Hid (Blk (w.alloc (.cells (gcs g) 39)) w.heap.size 39 (gcs g)) := Blk.new _ _ _
  obtain ⟨M, hp, hd⟩ := (h.below hbl).map
  have HD := Lib.hid hd
  have HP := Lib.hid hp
  have HW := Lib.hid (wf_i64 hk)
  have hgd : getD (M.map It.kv) k = some (.agg (ics x.u x.g x.t)) := by rw [get_kv, find_perm hp h.asc k, hx]; rfl
  have HV : Hid ((getD (M.map It.kv) k).getD (.agg (ics .empty (fun _ => 0) 0)) = .agg (ics x.u x.g x.t)) := by show _ = _; rw [hgd]; rfl
  have HB : Hid ((getD (M.map It.kv) k).isSome = true) := by show _ = _; rw [hgd]; rfl
  clear h hp hd hgd hbl
  go_enter Try.func18, Try.ntmps18
  go_wp2_with fail
  generalize hwb : w.alloc (.cells (gcs g) 39) = wb at *
  have hwsz : wb.heap.size = w.heap.size + 1 := by rw [← hwb]; simp
  clear hwb
  have HSZ := Lib.hid hwsz
  clear hwsz
  refine (off_any wb pb mb c0).mono ?_
  rintro e w1 ⟨rfl, rfl⟩
  have HB1 : Hid (Blk (wb.alloc (.cells (ics .empty (fun _ => 0) 0) 55)) wb.heap.size 55 (ics .empty (fun _ => 0) 0)) := Blk.new _ _ _
  go_wp2_with (first
    | (at_lookup; refine wpList_lookup_dict_ok _ rfl _ _ 47 rfl 3 55 .i64 Try.underlying3 Try.underlying47 _ (zero55 _) mb _ rfl HD.out k rfl HW.out ?_; rw [HV.out, HB.out])
    | (refine wpList_store_blk rfl 55 (.tmp 11) (.tmp 22) rfl wb.heap.size 55 _ (ics x.u x.g x.t) rfl rfl HB1.out rfl info55 (ics_one _ _ _) ?_))
  intro w2 hb2 hf2
  have hB2 : Below wb.heap.size wb w2 := ((Fr.refl none0 wb).alloc _ |>.trans (hf2.mono (T' := fun k => wb.heap.size ≤ k) (fun k _ e => by omega)) (fun k hk h => absurd hk (Nat.not_lt_of_le h))).below (Nat.le_refl _) (fun _ h => h.elim)
  have hg2 : Blk w2 w.heap.size 39 (gcs g) := HG.out.below hB2 HG.out.lt
  have HB2 : Hid (Below w.heap.size w w2) := HB0.out.trans (hB2.mono HB0.out.size)
  have h2 := H.out.below hB2
  have H2 := Lib.hid h2
  have c2 := h2.c0
  have d17 : w2.cell? ⟨wb.heap.size, 17, none⟩ = some (.int .i64 x.t) := hb2.cell 17
  have l55 : (Instr.loadAt 55 (.pointer (some ⟨wb.heap.size, 0, none⟩))).run Try.prog w2 = .ok (.agg (ics x.u x.g x.t)) w2 := run_loadAt_mid w2 wb.heap.size 0 55 (ics x.u x.g x.t).toList _ (fun j v hj => by rw [Nat.zero_add, hb2.cell j]; simpa using hj) Try.underlying55 rfl info55
  have l39 : (Instr.loadAt 39 (.pointer (some ⟨w.heap.size, 0, none⟩))).run Try.prog w2 = .ok (.agg (gcs g)) w2 := run_loadAt_mid w2 w.heap.size 0 39 (gcs g).toList _ (fun j v hj => by rw [Nat.zero_add, hg2.cell j]; simpa using hj) Try.underlying39 rfl (by kernel_rfl)
  have hbld := build_item w2 u g x.t
  obtain ⟨b, hbe⟩ : ∃ b, ((x.u.toList == u.toList) && gsame x.g g && (x.t == x.t)) = b := ⟨_, rfl⟩
  have hneq := neq_item w2 x.u u x.g g x.t x.t
  rw [hbe] at hneq
  have HBE := Lib.hid hbe
  clear hbe hB2 hg2 hb2 hf2 h2
  have hcond : ((x.u.toList == u.toList) && gsame x.g g) = b := by rw [← HBE.out]; simp
  have HX := Lib.hid hx
  cases b with
  | false =>
    have HR : Hid (backR S k u g t = (7, S)) := by
      show _ = _
      unfold backR
      rw [hx]
      dsimp only
      rw [hcond]
      rfl
    clear hcond hx
    go_wp2_with fail
    go_ret
    rw [HR.out]
    exact ⟨rfl, H0.out.below HB2.out, Fr.of_below HB2.out⟩
  | true =>
    by_cases ht : x.t ≤ t
    · have HR : Hid (backR S k u g t = (7, S)) := by
        show _ = _
        unfold backR
        rw [hx]
        dsimp only
        rw [hcond, if_neg (by simp; omega)]
      clear hcond hx
      go_wp2_with fail
      go_ret
      rw [HR.out]
      exact ⟨rfl, H0.out.below HB2.out, Fr.of_below HB2.out⟩
    · have HR : Hid (backR S k u g t = (0, delS S k)) := by
        show _ = _
        unfold backR
        rw [hx]
        dsimp only
        rw [hcond, if_pos (by simp; omega)]
      obtain ⟨M2, hp2, hd2⟩ := H2.out.map
      have HD2 := Lib.hid hd2
      have HP2 := Lib.hid hp2
      clear hcond hx hd2 hp2
      go_wp2_with (at_delete; refine wpList_delete_dict _ rfl _ _ 47 3 rfl 55 .i64 Try.underlying3 Try.underlying47 mb _ rfl HD2.out k rfl HW.out ?_)
      intro w3 hm3 hf3
      have HF : Hid (KStep B pb mb (delS S k) w w3) := ⟨H2.out.del HP2.out hf3 hm3, (Fr.of_below HB2.out).step hf3⟩
      clear hm3 hf3
      go_wp2_with fail
      go_ret
      rw [HR.out]
      exact ⟨rfl, HF.out⟩
end Go.Proofs.Ytbgjajhnjkldkaa
