/- Contract of the document's Back, by a walk. -/
import Derived.Test.YtbgjajhnjkldkaaW12
namespace Go.Proofs.Ytbgjajhnjkldkaa
open Go.RowKit Go.WideShapes Go.Maps

theorem load9 {w : World} {b o : Nat} {v : Value} (h : w.cell? ⟨b, o, none⟩ = some v) : (Instr.loadAt 9 (.pointer (some ⟨b, o, none⟩))).run Try.prog w = .ok v w := by
  have h0 : Try.prog.underlying 9 = some .string := by kernel_rfl
  simp [Instr.loadAt, Instr.sureAddr, loadVar, isAgg, run_underlying h0, h]
theorem neq_str (w : World) (a b : ByteArray) : (binOp .neq 9 (.string a) (.string b)).run Try.prog w = .ok (.bool (!(a.toList == b.toList))) w := rfl
theorem neq_gd2 (w : World) (g h : Gd) : (binOp .neq 39 (.agg (gcs g)) (.agg (gcs h))).run Try.prog w = .ok (.bool (!gsame g h)) w := neq_gd w g h
attribute [-go_sem] Go.Instr.build Go.Instr.loadAt Go.run_neq_struct
attribute [local go_sem] load35 load3 load9

set_option maxRecDepth 100000 in
set_option maxHeartbeats 2000000 in
theorem rback_some (B : Nat) (w : World) (rb : Nat) (S : List It) (lo : Option Addr) (lc : Nat) (k : Int) (u : ByteArray) (g : Gd) (t : Int) (x : It) (h : RfAt B w rb S lo lc) (hB : B ≤ w.heap.size) (hlen : S.length < 100000) (hx : findS S k = some x) :
    Calls Try.prog 22 #[.pointer (some ⟨rb, 0, none⟩), .int .i64 k, .string u, .agg (gcs g), .int .i64 t] w fun e w' => e = .returned (.int .i64 (backR S k u g t).1) ∧ DStep B rb (backR S k u g t).2 w w' := by
  have hbl : Below w.heap.size w (w.alloc (.cells (gcs g) 39)) := (Below.refl _ _).alloc (Nat.le_refl _) _
  have HB0 := Lib.hid hbl
  have H : Hid (RfAt B (w.alloc (.cells (gcs g) 39)) rb S lo lc) := h.below hbl
  have HRF : Hid (RfA B (w.alloc (.cells (gcs g) 39)) rb S) := ⟨lo, lc, h.below hbl⟩
  have HD : Hid (DStep B rb S w (w.alloc (.cells (gcs g) 39))) := ⟨⟨lo, lc, h.below hbl⟩, Fr.of_below hbl⟩
  have HG : Hid (Blk (w.alloc (.cells (gcs g) 39)) w.heap.size 39 (gcs g)) := Blk.new _ _ _
  have HBB : Hid (B ≤ (w.alloc (.cells (gcs g) 39)).heap.size) := by show _ ≤ _; simp; omega
  obtain ⟨i, hi, hxk, hidx⟩ := find_idx hx
  have HPL := Lib.hid (place_some hidx)
  have hil : i < S.length := (List.getElem?_eq_some_iff.1 hi).1
  obtain ⟨g0, rfl⟩ := h.row.form (by omega)
  have c1 := H.out.c0
  have HROW := Lib.hid H.out.row
  have HI := Lib.hid hi
  have HX := Lib.hid hx
  have i3 : ¬ (i : Int) < 0 := by omega
  have i3d : decide ((i : Int) < 0) = false := decide_eq_false i3
  have i4 : (i : Int) < (S.length : Int) := by omega
  have i5 : (0 : Int) ≤ (i : Int) := by omega
  clear h hi hx hxk hidx hbl
  go_enter Try.func22, Try.ntmps22
  go_wp2_with fail
  generalize w.alloc (.cells (gcs g) 39) = wb at *
  refine (place_any B wb rb S _ lc k H.out (by omega)).mono ?_
  rw [HPL.out]
  rintro e w1 ⟨rfl, rfl⟩
  have d1 : wb.cell? ⟨g0, i * 19 + 1, none⟩ = some (.string x.u) := rowI_cell HROW.out HI.out (j := 1) (by omega)
  have d18 : wb.cell? ⟨g0, i * 19 + 18, none⟩ = some (.int .i64 x.t) := rowI_cell HROW.out HI.out (j := 18) (by omega)
  have l1 : ∀ m, (Instr.loadAt 39 (.pointer (some ⟨g0, i * 19 + 2, none⟩))).run Try.prog (wb.drewN m) = .ok (.agg (gcs x.g)) (wb.drewN m) := fun m => run_loadAt_mid (wb.drewN m) g0 (i * 19 + 2) 39 (gcs x.g).toList _ (fun j v hj => by
    have hj16 : j < 16 := (List.getElem?_eq_some_iff.1 hj).1
    have h1 : wb.cell? ⟨g0, i * 19 + (j + 2), none⟩ = (icells x)[j + 2]? := rowI_cell HROW.out HI.out (by omega)
    rw [show i * 19 + 2 + j = i * 19 + (j + 2) by omega]
    refine Eq.trans (b := wb.cell? ⟨g0, i * 19 + (j + 2), none⟩) rfl (h1.trans ?_)
    unfold icells ics
    simp only [List.getElem?_cons_succ]
    unfold gcs at hj
    rw [← hj]
    have : ∀ j, j < 16 → ([Value.int .u8 (x.g 0), .int .u8 (x.g 1), .int .u8 (x.g 2), .int .u8 (x.g 3), .int .u8 (x.g 4), .int .u8 (x.g 5), .int .u8 (x.g 6), .int .u8 (x.g 7), .int .u8 (x.g 8), .int .u8 (x.g 9), .int .u8 (x.g 10), .int .u8 (x.g 11), .int .u8 (x.g 12), .int .u8 (x.g 13), .int .u8 (x.g 14), .int .u8 (x.g 15)] ++ [Value.int .i64 x.t])[j]? = [Value.int .u8 (x.g 0), .int .u8 (x.g 1), .int .u8 (x.g 2), .int .u8 (x.g 3), .int .u8 (x.g 4), .int .u8 (x.g 5), .int .u8 (x.g 6), .int .u8 (x.g 7), .int .u8 (x.g 8), .int .u8 (x.g 9), .int .u8 (x.g 10), .int .u8 (x.g 11), .int .u8 (x.g 12), .int .u8 (x.g 13), .int .u8 (x.g 14), .int .u8 (x.g 15)][j]? := fun j hj => List.getElem?_append_left (by simpa using hj)
    exact this j hj16) Try.underlying39 rfl (by kernel_rfl)
  have l2 : ∀ m, (Instr.loadAt 39 (.pointer (some ⟨w.heap.size, 0, none⟩))).run Try.prog (wb.drewN m) = .ok (.agg (gcs g)) (wb.drewN m) := fun m => run_loadAt_mid (wb.drewN m) w.heap.size 0 39 (gcs g).toList _ (fun j v hj => by
    rw [Nat.zero_add]
    exact (HG.out.cell j).trans (by simpa using hj)) Try.underlying39 rfl (by kernel_rfl)
  obtain ⟨b1, hb1⟩ : ∃ b, (x.u.toList == u.toList) = b := ⟨_, rfl⟩
  obtain ⟨b2, hb2⟩ : ∃ b, gsame x.g g = b := ⟨_, rfl⟩
  have n1 : ∀ w, (binOp .neq 9 (.string x.u) (.string u)).run Try.prog w = .ok (.bool (!b1)) w := fun w => by rw [neq_str, hb1]
  have n2 : ∀ w, (binOp .neq 39 (.agg (gcs x.g)) (.agg (gcs g))).run Try.prog w = .ok (.bool (!b2)) w := fun w => by rw [neq_gd2, hb2]
  have HBR : Hid (backR S k u g t = if b1 && b2 && decide (t < x.t) then (0, delS S k) else (7, S)) := by
    show _ = _
    unfold backR
    rw [HX.out]
    dsimp only
    rw [hb1, hb2]
  have n3 : ∀ w, (Op.stringOp .neq x.u u).run Try.prog w = .ok (.bool (!b1)) w := n1
  clear hb2
  by_cases hc : b1 = true ∧ b2 = true ∧ t < x.t
  · obtain ⟨e1, e2, e3⟩ := hc
    subst e1 e2
    have e4 : ¬ x.t ≤ t := by omega
    have HR : Hid (backR S k u g t = (0, delS S k)) := by
      show _ = _
      rw [HBR.out, if_pos (by simpa using e3)]
    simp only [Bool.not_true] at n1 n2 n3
    clear HBR
    go_wp2_with fail
    go_quiet (fail)
    go_wp2_with fail
    refine (rdrop_any B _ rb S k ((HRF.out).below (below_drewN (Below.refl _ _) _)) HBB.out hlen).mono ?_
    rintro e w2 ⟨rfl, hd2⟩
    have HF : Hid (DStep B rb (delS S k) w w2) := ⟨hd2.1, HD.out.2.step ((Fr.of_below (T := fun j => j = rb) (below_drewN (Below.refl _ _) _)).step hd2.2)⟩
    clear hd2
    go_wp2_with fail
    go_ret
    rw [HR.out]
    exact ⟨rfl, HF.out⟩
  · have HR : Hid (backR S k u g t = (7, S)) := by
      show _ = _
      rw [HBR.out, if_neg (by simpa [and_assoc] using hc)]
    have HDN : Hid (∀ n, DStep B rb S w (wb.drewN n)) := fun n => ⟨HRF.out.below (below_drewN (Below.refl _ _) _), HD.out.2.drewN n⟩
    clear HBR
    cases b1 with
    | false =>
      simp only [Bool.not_false] at n1 n3
      have hne : ¬ x.u.toList = u.toList := by simpa using hb1
      have hbn : (x.u.toList != u.toList) = true := by simpa using hb1
      have hdc : decide (x.u.toList = u.toList) = false := by simpa using hb1
      clear hc
      go_wp2_with fail
      go_quiet (fail)
      go_wp2_with fail
      go_ret
      rw [HR.out]
      exact ⟨rfl, HDN.out _⟩
    | true =>
      simp only [Bool.not_true] at n1 n3
      cases b2 with
      | false =>
        simp only [Bool.not_false] at n2
        clear hc
        go_wp2_with fail
        go_quiet (fail)
        go_wp2_with fail
        go_ret
        rw [HR.out]
        exact ⟨rfl, HDN.out _⟩
      | true =>
        simp only [Bool.not_true] at n2
        have e4 : x.t ≤ t := by
          have : ¬ t < x.t := fun h => hc ⟨rfl, rfl, h⟩
          omega
        clear hc
        go_wp2_with fail
        go_quiet (fail)
        go_wp2_with fail
        go_ret
        rw [HR.out]
        exact ⟨rfl, HDN.out _⟩

theorem rback_any (B : Nat) (w : World) (rb : Nat) (S : List It) (k : Int) (u : ByteArray) (g : Gd) (t : Int) (h : RfA B w rb S) (hB : B ≤ w.heap.size) (hlen : S.length < 100000) :
    Calls Try.prog 22 #[.pointer (some ⟨rb, 0, none⟩), .int .i64 k, .string u, .agg (gcs g), .int .i64 t] w fun e w' => e = .returned (.int .i64 (backR S k u g t).1) ∧ DStep B rb (backR S k u g t).2 w w' := by
  obtain ⟨lo, lc, h⟩ := h
  cases hx : findS S k with
  | some x => exact rback_some B w rb S lo lc k u g t x h hB hlen hx
  | none =>
    have hr : backR S k u g t = (7, S) := by unfold backR; rw [hx]
    rw [hr]
    have HP := Lib.hid (place_none hx)
    have hbl : Below w.heap.size w (w.alloc (.cells (gcs g) 39)) := (Below.refl _ _).alloc (Nat.le_refl _) _
    have H : Hid (RfAt B (w.alloc (.cells (gcs g) 39)) rb S lo lc) := h.below hbl
    have HDN : Hid (∀ n, DStep B rb S w ((w.alloc (.cells (gcs g) 39)).drewN n)) := fun n => ⟨⟨lo, lc, (h.below hbl).below (below_drewN (Below.refl _ _) _)⟩, (Fr.of_below hbl).drewN n⟩
    clear h hx hbl hr
    go_enter Try.func22, Try.ntmps22
    go_wp2_with fail
    generalize w.alloc (.cells (gcs g) 39) = wb at *
    refine (place_any B wb rb S _ lc k H.out (by omega)).mono ?_
    rw [HP.out]
    rintro e w1 ⟨rfl, rfl⟩
    go_wp2_with fail
    go_quiet (fail)
    go_wp2_with fail
    go_ret
    exact ⟨rfl, HDN.out _⟩
end Go.Proofs.Ytbgjajhnjkldkaa
