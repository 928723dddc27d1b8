/- Contract of Back, whole. -/
import Derived.Test.YtbgjajhnjkldkaaW5
namespace Go.Proofs.Ytbgjajhnjkldkaa
open Go.RowKit Go.WideShapes Go.Maps

set_option maxRecDepth 100000 in
set_option maxHeartbeats 1000000 in
theorem back_any (B : Nat) (w : World) (pb mb : Nat) (S : List It) (k : Int) (u : ByteArray) (g : Gd) (t : Int) (h : KeepAt B w pb mb S) (hk : InI k) :
    Calls Try.prog 18 #[.pointer (some ⟨pb, 0, none⟩), .int .i64 k, .string u, .agg (gcs g), .int .i64 t] w fun e w' => e = .returned (.int .i64 (backR S k u g t).1) ∧ KStep B pb mb (backR S k u g t).2 w w' := by
  cases hx : findS S k with
  | some x => exact back_some B w pb mb S k u g t x h hk hx
  | none =>
    have hr : backR S k u g t = (7, S) := by unfold backR; rw [hx]
    rw [hr]
    have hbl : Below w.heap.size w (w.alloc (.cells (gcs g) 39)) := (Below.refl _ _).alloc (Nat.le_refl _) _
    have HB0 := Lib.hid hbl
    have H0 := Lib.hid h
    have c0 := (h.below hbl).c0
    obtain ⟨M, hp, hd⟩ := (h.below hbl).map
    have HD := Lib.hid hd
    have HW := Lib.hid (wf_i64 hk)
    have hgd : getD (M.map It.kv) k = none := by rw [get_kv, find_perm hp h.asc k, hx]; rfl
    have HV : Hid ((getD (M.map It.kv) k).getD (.agg (ics .empty (fun _ => 0) 0)) = .agg (ics .empty (fun _ => 0) 0)) := by show _ = _; rw [hgd]; rfl
    have HB : Hid ((getD (M.map It.kv) k).isSome = false) := by show _ = _; rw [hgd]; rfl
    clear h hp hd hgd hbl hx hr
    go_enter Try.func18, Try.ntmps18
    go_wp2_with fail
    generalize w.alloc (.cells (gcs g) 39) = wb at *
    refine (off_any wb pb mb c0).mono ?_
    rintro e w1 ⟨rfl, rfl⟩
    have HB1 : Hid (Blk (wb.alloc (.cells (ics .empty (fun _ => 0) 0) 55)) wb.heap.size 55 (ics .empty (fun _ => 0) 0)) := Blk.new _ _ _
    go_wp2_with (first
      | (at_lookup; refine wpList_lookup_dict_ok _ rfl _ _ 47 rfl 3 55 .i64 Try.underlying3 Try.underlying47 _ (zero55 _) mb _ rfl HD.out k rfl HW.out ?_; rw [HV.out, HB.out])
      | (refine wpList_store_blk rfl 55 (.tmp 11) (.tmp 22) rfl wb.heap.size 55 _ (ics .empty (fun _ => 0) 0) rfl rfl HB1.out rfl info55 (ics_one _ _ _) ?_))
    intro w2 hb2 hf2
    have hB2 : Below wb.heap.size wb w2 := ((Fr.refl none0 wb).alloc _ |>.trans (hf2.mono (T' := fun k => wb.heap.size ≤ k) (fun k _ e => by omega)) (fun k hk h => absurd hk (Nat.not_lt_of_le h))).below (Nat.le_refl _) (fun _ h => h.elim)
    have HB2 : Hid (Below w.heap.size w w2) := HB0.out.trans (hB2.mono HB0.out.size)
    clear hB2 hb2 hf2
    go_wp2_with fail
    go_ret
    exact ⟨rfl, H0.out.below HB2.out, Fr.of_below HB2.out⟩
end Go.Proofs.Ytbgjajhnjkldkaa
