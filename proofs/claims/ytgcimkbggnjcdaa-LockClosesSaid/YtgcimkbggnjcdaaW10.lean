/- Contracts of the document's Close and Of, of the table's Of, by walks. -/
import Derived.Test.YtgcimkbggnjcdaaW9
namespace Go.Proofs.Ytgcimkbggnjcdaa
open Go.RowKit

/-- The locks of the others; how many an open has. -/
def others (o : Int) (S : List Lk) : List Lk := S.filter fun x => decide (¬ x.op = o)
def ofN (o : Int) (S : List Lk) : Nat := (S.filter fun x => decide (x.op = o)).length
theorem of_others (o : Int) (S : List Lk) : ofN o S + (others o S).length = S.length := by
  unfold ofN others
  induction S with
  | nil => rfl
  | cons a S ih =>
    by_cases h : a.op = o
    · simp only [List.filter_cons, h, decide_true, not_true, decide_false, if_true, List.length_cons, Bool.false_eq_true, if_false]
      omega
    · simp only [List.filter_cons, h, decide_true, not_false_iff, decide_false, if_true, List.length_cons, Bool.false_eq_true, if_false]
      omega
theorem take_yes {S : List Lk} {k : Nat} {x : Lk} {o : Int} (h : S[k]? = some x) (hc : x.op = o) : others o (S.take (k + 1)) = others o (S.take k) ∧ ofN o (S.take (k + 1)) = ofN o (S.take k) + 1 := by
  obtain ⟨hk, he⟩ := List.getElem?_eq_some_iff.1 h
  unfold others ofN
  rw [List.take_succ_eq_append_getElem hk, he, List.filter_append, List.filter_append]
  simp [hc]
theorem take_no {S : List Lk} {k : Nat} {x : Lk} {o : Int} (h : S[k]? = some x) (hc : ¬ x.op = o) : others o (S.take (k + 1)) = others o (S.take k) ++ [x] ∧ ofN o (S.take (k + 1)) = ofN o (S.take k) := by
  obtain ⟨hk, he⟩ := List.getElem?_eq_some_iff.1 h
  unfold others ofN
  rw [List.take_succ_eq_append_getElem hk, he, List.filter_append, List.filter_append]
  simp [hc]
theorem others_take_len (o : Int) (S : List Lk) (k : Nat) : (others o (S.take k)).length ≤ S.length := by
  unfold others
  exact Nat.le_trans (List.length_filter_le _ _) (by rw [List.length_take]; omega)

theorem rof_any (B : Nat) (w : World) (pb : Nat) (S : List Lk) (ao : Option Addr) (cap : Nat) (op : Int) (h : Rt B w pb S ao cap) :
    Calls Try.prog 22 #[.pointer (some ⟨pb, 0, none⟩), .int .i64 op] w fun e w' => e = .returned (.int .i64 (ofN op S : Int)) ∧ w = w' := by
  have HT := Lib.hid h
  have c0 := h.c0
  have hS := h.len
  clear h
  go_enter Try.func22, Try.ntmps22
  go_wp2_with fail
  go_loopw [5, 6] (fun s5 s wr => ∃ k m : Nat, k ≤ S.length ∧ s = .int .i64 k ∧ s5 = .int .i64 m ∧ m ≤ k ∧ w = wr ∧ Hid (m = ofN op (S.take k))) (fun _ s _ => S.length - (intOf s).toNat)
  case atStart => exact ⟨0, 0, Nat.zero_le _, rfl, rfl, Nat.le_refl _, rfl, rfl⟩
  case round =>
    obtain ⟨k, m, hk, rfl, rfl, hmk, rfl, hm⟩ := hrel
    by_cases hlt : k < S.length
    · obtain ⟨g, rfl⟩ := HT.out.row.form (by omega)
      have hk2 : S[k]? = some S[k] := List.getElem?_eq_getElem hlt
      obtain ⟨d0, d1, d2, d3⟩ := row_cells HT.out.row hk2
      have HK := Lib.hid hk2
      clear hk2 d1 d2 d3
      generalize S[k] = y at *
      obtain ⟨yo, ya, yn, ym⟩ := y
      dsimp only at d0
      by_cases hq : yo = op
      · have HM : Hid (m + 1 = ofN op (S.take (k + 1))) := by
          show _ = _
          rw [(take_yes HK.out hq).2, ← hm.out]
        clear HK hm
        subst hq
        go_wp2_with fail
        go_roundw
        case rel => exact ⟨k + 1, m + 1, by omega, by go_num, by go_num, by omega, (by first | rfl | trivial), HM.out⟩
        case measure => simp [intOf]; omega
      · have HM : Hid (m = ofN op (S.take (k + 1))) := by
          show _ = _
          rw [(take_no HK.out hq).2, ← hm.out]
        have e1 : (yo == op) = false := by simpa using hq
        clear HK hm hq
        go_wp2_with fail
        go_roundw
        case rel => exact ⟨k + 1, m, by omega, by go_num, rfl, by omega, (by first | rfl | trivial), HM.out⟩
        case measure => simp [intOf]; omega
    · have hke : k = S.length := by omega
      have HM : Hid ((m : Int) = (ofN op S : Int)) := by
        have := hm.out
        rw [hke, List.take_length] at this
        show _ = _
        rw [this]
      clear hm hke
      go_wp2_with fail
      go_ret
      exact ⟨congrArg (fun q => Ending.returned (.int .i64 q)) HM.out, rfl⟩

set_option maxHeartbeats 2000000 in
theorem rclose_any (B : Nat) (w : World) (pb : Nat) (S : List Lk) (ao : Option Addr) (cap : Nat) (op : Int) (h : Rt B w pb S ao cap) (hB : B ≤ w.heap.size) :
    Calls Try.prog 37 #[.pointer (some ⟨pb, 0, none⟩), .int .i64 op] w fun e w' => e = .returned (.int .i64 (ofN op S : Int)) ∧ RNow B pb ao (others op S) w w' := by
  have HT := Lib.hid h
  have hS := h.len
  clear h
  obtain ⟨i1, gi, gz0, gz1, gz2⟩ := info_parts inf34
  go_enter Try.func37, Try.ntmps37
  go_wp2_with fail
  go_loopw [5, 6] (fun s6 s16 wr => ∃ (k l : Nat) (lo : Option Addr) (lc : Nat), k ≤ S.length ∧ s16 = .int .i64 k ∧ s6 = .slice lo l lc ∧ l ≤ 64 ∧ Hid (Fr none0 w wr) ∧ Hid (l = (others op (S.take k)).length) ∧ Hid (Row w.heap.size wr 34 4 lo l lc (flat (others op (S.take k))))) (fun _ s _ => S.length - (intOf s).toNat)
  case atStart => exact ⟨0, 0, none, 0, Nat.zero_le _, rfl, rfl, Nat.zero_le _, Fr.refl _ _, rfl, Row.nil _ _ _ _⟩
  case round =>
    obtain ⟨k, l, lo, lc, hk, rfl, rfl, hl, hf, hle, hr2⟩ := hrel
    have hwr : Hid (Rt B wr pb S ao cap) := HT.out.below (hf.out.below (Nat.le_refl _) (fun _ h => h.elim))
    have c0 := hwr.out.c0
    by_cases hlt : k < S.length
    · obtain ⟨g, rfl⟩ := HT.out.row.form (by omega)
      have hk2 : S[k]? = some S[k] := List.getElem?_eq_getElem hlt
      obtain ⟨d0, d1, d2, d3⟩ := row_cells hwr.out.row hk2
      have HK := Lib.hid hk2
      have hpl := Lib.hid (others_take_len op S (k + 1))
      clear hk2
      generalize S[k] = it at *
      obtain ⟨yo, ya, yn, ym⟩ := it
      dsimp only at d0 d1 d2 d3
      have hb := hf.out.size
      by_cases hq : yo = op
      · have HE2 := Lib.hid (take_yes HK.out hq).1
        subst hq
        clear HK d1 d2 d3
        go_wp2_with fail
        go_roundw
        case rel => exact ⟨k + 1, l, lo, lc, by omega, by go_num, rfl, hl, hf.out, by rw [HE2.out]; exact hle.out, by rw [HE2.out]; exact hr2.out⟩
        case measure => simp [intOf]; omega
      · have e2 := (take_no HK.out hq).1
        have hb2 : (yo != op) = true := by simpa using hq
        have HF1 : Hid (Fr none0 w (wr.alloc (.cells #[.int .i64 yo, .int .u64 (ya : Int), .int .u64 (yn : Int), .int .u16 (ym : Int)] 34))) := hf.out.alloc _
        have HR2 : Hid (Row w.heap.size (wr.alloc (.cells #[.int .i64 yo, .int .u64 (ya : Int), .int .u64 (yn : Int), .int .u16 (ym : Int)] 34)) 34 4 lo l lc (flat (others op (S.take k)))) := hr2.out.fr ((Fr.refl none0 _).alloc _) (fun _ _ h => h)
        have HN := Lib.hid (news_new wr #[.int .i64 yo, .int .u64 (ya : Int), .int .u64 (yn : Int), .int .u16 (ym : Int)] 34 (cells ⟨yo, ya, yn, ym⟩) rfl)
        have hm1 : (others op (S.take k)).length + 1 = (others op (S.take (k + 1))).length := by rw [e2]; simp
        have HM1 := Lib.hid hm1
        have HFL : Hid (flat (others op (S.take k)) ++ cells ⟨yo, ya, yn, ym⟩ = flat (others op (S.take (k + 1)))) := by show _ = _; rw [e2]; simp [flat]
        clear e2 hm1
        go_wp2_with (at_builtin; refine wpList_append_row rfl (.tmp 27) (.tmp 35) 30 rfl 34 i1 _ 4 32 Try.underlying30 gi gz0 gz1 gz2 rfl (by decide) (by decide) w.heap.size lo l lc (flat (others op (S.take k))) rfl HR2.out wr.heap.size 0 1 1 (cells ⟨yo, ya, yn, ym⟩) rfl rfl HN.out ?_ ?_ ?_ ?_)
        · first | (intro u hu; simp [cells] at hu; rcases hu with rfl | rfl | rfl | rfl <;> rfl) | (simp [cells]; done) | (refine ⟨rfl, rfl, rfl, rfl⟩)
        · omega
        · first | omega | (simp; omega)
        intro ro' rc' w3 hr3 hf3 _
        have HF3 : Hid (Fr none0 w w3) := HF1.out.rowed HR2.out (Nat.le_refl _) hf3
        rw [HFL.out] at hr3
        have HR3 := Lib.hid hr3
        clear hr3 hf3 HF1 HR2 HN HK d0 d1 d2 d3 hb2 c0 hq
        go_wp2_with fail
        go_roundw
        case rel => exact ⟨k + 1, l + 1, ro', rc', by omega, by go_num, rfl, by have := hle.out; have := HM1.out; have := hpl.out; omega, HF3.out, by have := hle.out; have := HM1.out; show l + 1 = _; omega, HR3.out⟩
        case measure => simp [intOf]; omega
    · have hke : k = S.length := by omega
      have hr2' := hr2.out
      have hle' := hle.out
      rw [hke, List.take_length] at hr2' hle'
      have hblk := HT.out.blk.fr hf.out (fun h => h)
      have hput := rput (n := l) HT.out.low hblk hle' (by rw [← hle']; exact hr2'.base hB) (fun x hx => HT.out.ok x (List.mem_filter.1 hx).1) (by rw [← hle']; omega)
      have hsub : Sub lo ao w.heap.size := fun i hi => Or.inr (hr2'.tag i (by obtain ⟨ad, rfl, rfl⟩ := hi; exact hr2'.lt) hi).1
      have hof := of_others op S
      have HV : Hid (IntKind.i64.wrap ((S.length : Int) - (l : Int)) = (ofN op S : Int)) := by
        show _ = _
        rw [IntWalk.i64_in _ (by omega)]; omega
      have HD : Hid (RNow B pb ao (others op S) w (wr.setCell ⟨pb, 0, none⟩ (.slice lo l lc))) := ⟨_, _, hput.2, (hf.out.mono (fun _ _ h => h.elim)).trans hput.1 (fun _ _ h => h), hsub⟩
      have hv := HV.out
      have f2 := hblk.frozen 0
      clear hr2 hr2' hle hle' hput hblk hke hsub hof
      go_wp2_with fail
      go_ret
      exact ⟨rfl, HD.out⟩
end Go.Proofs.Ytgcimkbggnjcdaa
