/- Contracts of Part, Words and Ints, by walks. -/
import Derived.Test.YtceomfdppbmebaaW5
namespace Go.Proofs.Ytceomfdppbmebaa
open Go.RowKit

theorem Row.apart {B B' : Nat} {w : World} {e e' : TypeId} {K K' n n' c c' : Nat} {ao bo : Option Addr} {xs ys : List Value} (h : Row B w e K ao n c xs) (h' : Row B' w e' K' bo n' c' ys) (hne : e ≠ e') : ∀ k, rowOf ao k → ¬ rowOf bo k := by
  rintro k ⟨a, rfl, rfl⟩ hb
  obtain ⟨_, o, ho, ht⟩ := h.tag _ h.lt ⟨a, rfl, rfl⟩
  obtain ⟨_, o', ho', ht'⟩ := h'.tag _ h.lt hb
  rw [ho] at ho'
  injection ho' with ho'
  subst ho'
  rw [ht] at ht'
  injection ht' with ht'
  exact hne ht'

def partX (c : Int) (S : List It) : List Value := (S.filter fun it => decide (it.conn = c)).map fun it => it.x
def partL (c : Int) (S : List It) : List It := S.filter fun it => decide (¬ it.conn = c)
theorem partX_yes {S : List It} {k : Nat} {it : It} {c : Int} (h : S[k]? = some it) (hc : it.conn = c) : partX c (S.take (k + 1)) = partX c (S.take k) ++ [it.x] ∧ partL c (S.take (k + 1)) = partL c (S.take k) := by
  obtain ⟨hk, he⟩ := List.getElem?_eq_some_iff.1 h
  unfold partX partL
  rw [List.take_succ_eq_append_getElem hk, he, List.filter_append, List.filter_append]
  simp [hc]
theorem partX_no {S : List It} {k : Nat} {it : It} {c : Int} (h : S[k]? = some it) (hc : ¬ it.conn = c) : partX c (S.take (k + 1)) = partX c (S.take k) ∧ partL c (S.take (k + 1)) = partL c (S.take k) ++ [it] := by
  obtain ⟨hk, he⟩ := List.getElem?_eq_some_iff.1 h
  unfold partX partL
  rw [List.take_succ_eq_append_getElem hk, he, List.filter_append, List.filter_append]
  simp [hc]
theorem part_len (c : Int) (S : List It) (k : Nat) : (partX c (S.take k)).length ≤ S.length ∧ (partL c (S.take k)).length ≤ S.length := by
  unfold partX partL
  constructor
  · rw [List.length_map]; exact Nat.le_trans (List.length_filter_le _ _) (by rw [List.length_take]; omega)
  · exact Nat.le_trans (List.length_filter_le _ _) (by rw [List.length_take]; omega)

set_option maxHeartbeats 1000000 in
theorem part_any (B : Nat) (w : World) (c : Int) (pb last : Nat) (S : List It) (ao : Option Addr) (cap : Nat) (h : Pk B w pb last S ao cap) (hB : B ≤ w.heap.size) :
    Calls Try.prog 16 #[.pointer (some ⟨pb, 0, none⟩), .int .i64 c] w fun e w' => ∃ ro rc ao' cap', e = .returned (.slice ro (partX c S).length rc) ∧ Row w.heap.size w' 3 1 ro (partX c S).length rc (partX c S) ∧ Pk B w' pb last (partL c S) ao' cap' ∧ Fy B [some 45, some 60] w w' := by
  have HW := Lib.hid h
  have hS : S.length ≤ 32 := h.len
  have c0 := h.c0
  have c2 := h.c2
  clear h
  obtain ⟨i0, hi, hz0, hz1, hz2⟩ := info_parts inf3
  obtain ⟨i1, gi, gz0, gz1, gz2⟩ := info_parts inf60
  go_enter Try.func16, Try.ntmps16
  go_wp2_with fail
  refine (off_any _ pb c0).mono ?_
  rintro e w1 ⟨rfl, rfl⟩
  go_wp2_with fail
  clear c0 c2
  go_loopw [5, 6, 8, 16] (fun s5 s6 _ s16 wr => ∃ (k m l : Nat) (ro lo : Option Addr) (rc lc : Nat), k ≤ S.length ∧ s16 = .int .i64 k ∧ s5 = .slice ro m rc ∧ s6 = .slice lo l lc ∧ m ≤ 32 ∧ l ≤ 32 ∧ Hid (Fr none0 w wr) ∧ Hid (m = (partX c (S.take k)).length) ∧ Hid (l = (partL c (S.take k)).length) ∧ Hid (Row w.heap.size wr 3 1 ro m rc (partX c (S.take k))) ∧ Hid (Row w.heap.size wr 60 4 lo l lc (flat (partL c (S.take k))))) (fun _ _ _ s _ => S.length - (intOf s).toNat)
  case atStart => exact ⟨0, 0, 0, none, none, 0, 0, Nat.zero_le _, rfl, rfl, rfl, Nat.zero_le _, Nat.zero_le _, Fr.refl _ _, rfl, rfl, Row.nil _ _ _ _, Row.nil _ _ _ _⟩
  case round =>
    obtain ⟨k, m, l, ro, lo, rc, lc, hk, rfl, rfl, rfl, hm, hl, hf, hme, hle, hr, hr2⟩ := hrel
    by_cases hlt : k < S.length
    · obtain ⟨g, rfl⟩ := HW.out.row.form (by omega)
      have hk2 : S[k]? = some S[k] := List.getElem?_eq_getElem hlt
      have hx1 : IsX (S[k]).x := HW.out.xs _ (List.getElem_mem hlt)
      obtain ⟨d0, d1, d2, d3⟩ := row_cells (HW.out.row.fr hf.out (fun _ _ h => h)) hk2
      have HK := Lib.hid hk2
      have hpl := Lib.hid (part_len c S (k + 1))
      clear hk2
      generalize S[k] = it at *
      obtain ⟨im, ic, iid, ix⟩ := it
      dsimp only at d0 d1 d2 d3 hx1
      obtain ⟨z, rfl⟩ := hx1
      have hb := hf.out.size
      by_cases hq : ic = c
      · obtain ⟨e1, e2⟩ := partX_yes HK.out hq
        subst hq
        have HE1 := Lib.hid e1
        have HE2 := Lib.hid e2
        have HF1 : Hid (Fr none0 w ((wr.alloc (.cells #[.int .u64 (im : Int), .int .i64 ic, .int .u64 (iid : Int), .int .i64 z] 60)).alloc (.cells #[.int .i64 z] 3))) := (hf.out.alloc _).alloc _
        have HR1 : Hid (Row w.heap.size ((wr.alloc (.cells #[.int .u64 (im : Int), .int .i64 ic, .int .u64 (iid : Int), .int .i64 z] 60)).alloc (.cells #[.int .i64 z] 3)) 3 1 ro m rc (partX ic (S.take k))) := hr.out.fr (((Fr.refl none0 _).alloc _).alloc _) (fun _ _ h => h)
        have HR2 : Hid (Row w.heap.size ((wr.alloc (.cells #[.int .u64 (im : Int), .int .i64 ic, .int .u64 (iid : Int), .int .i64 z] 60)).alloc (.cells #[.int .i64 z] 3)) 60 4 lo l lc (flat (partL ic (S.take k)))) := hr2.out.fr (((Fr.refl none0 _).alloc _).alloc _) (fun _ _ h => h)
        have HN := Lib.hid (news_new2 wr (.cells #[.int .u64 (im : Int), .int .i64 ic, .int .u64 (iid : Int), .int .i64 z] 60) #[.int .i64 z] 3 [.int .i64 z] rfl)
        have hm1 : (partX ic (S.take k)).length + 1 = (partX ic (S.take (k + 1))).length := by rw [e1]; simp
        have HM1 := Lib.hid hm1
        clear e1 e2 hm1
        go_wp2_with (at_builtin; refine wpList_append_row rfl (.tmp 24) (.tmp 27) 38 rfl 3 i0 _ 1 8 Try.underlying38 hi hz0 hz1 hz2 rfl (by decide) (by decide) w.heap.size ro m rc (partX ic (S.take k)) rfl HR1.out (wr.heap.size + 1) 0 1 1 [.int .i64 z] rfl rfl HN.out ?_ ?_ ?_ ?_)
        · first | rfl | (intro u hu; simp at hu; subst hu; rfl)
        · omega
        · first | omega | (simp; omega)
        intro ro' rc' w3 hr3 hf3 _
        have HF3 : Hid (Fr none0 w w3) := HF1.out.rowed HR1.out (Nat.le_refl _) hf3
        have HR3 := Lib.hid hr3
        have HR4 : Hid (Row w.heap.size w3 60 4 lo l lc (flat (partL ic (S.take k)))) := HR2.out.fr hf3 (HR2.out.apart HR1.out (by decide))
        clear hr3 hf3 HF1 HR1 HR2 HN HK d0 d1 d2 d3
        go_wp2_with fail
        go_roundw
        case rel => exact ⟨k + 1, m + 1, l, ro', lo, rc', lc, by omega, by go_num, rfl, rfl, by have := hme.out; have := HM1.out; have := hpl.out.1; omega, hl, HF3.out, by have := hme.out; have := HM1.out; show m + 1 = _; omega, by rw [HE2.out]; exact hle.out, by rw [HE1.out]; exact HR3.out, by rw [HE2.out]; exact HR4.out⟩
        case measure => simp [intOf]; omega
      · obtain ⟨e1, e2⟩ := partX_no HK.out hq
        have HE1 := Lib.hid e1
        have HE2 := Lib.hid e2
        have hb2 : (ic == c) = false := by simpa using hq
        have HF1 : Hid (Fr none0 w ((wr.alloc (.cells #[.int .u64 (im : Int), .int .i64 ic, .int .u64 (iid : Int), .int .i64 z] 60)).alloc (.cells #[.int .u64 (im : Int), .int .i64 ic, .int .u64 (iid : Int), .int .i64 z] 60))) := (hf.out.alloc _).alloc _
        have HR1 : Hid (Row w.heap.size ((wr.alloc (.cells #[.int .u64 (im : Int), .int .i64 ic, .int .u64 (iid : Int), .int .i64 z] 60)).alloc (.cells #[.int .u64 (im : Int), .int .i64 ic, .int .u64 (iid : Int), .int .i64 z] 60)) 3 1 ro m rc (partX c (S.take k))) := hr.out.fr (((Fr.refl none0 _).alloc _).alloc _) (fun _ _ h => h)
        have HR2 : Hid (Row w.heap.size ((wr.alloc (.cells #[.int .u64 (im : Int), .int .i64 ic, .int .u64 (iid : Int), .int .i64 z] 60)).alloc (.cells #[.int .u64 (im : Int), .int .i64 ic, .int .u64 (iid : Int), .int .i64 z] 60)) 60 4 lo l lc (flat (partL c (S.take k)))) := hr2.out.fr (((Fr.refl none0 _).alloc _).alloc _) (fun _ _ h => h)
        have HN := Lib.hid (news_new2 wr (.cells #[.int .u64 (im : Int), .int .i64 ic, .int .u64 (iid : Int), .int .i64 z] 60) #[.int .u64 (im : Int), .int .i64 ic, .int .u64 (iid : Int), .int .i64 z] 60 (cells ⟨im, ic, iid, .int .i64 z⟩) rfl)
        have hm1 : (partL c (S.take k)).length + 1 = (partL c (S.take (k + 1))).length := by rw [e2]; simp
        have HM1 := Lib.hid hm1
        have HFL : Hid (flat (partL c (S.take k)) ++ cells ⟨im, ic, iid, .int .i64 z⟩ = flat (partL c (S.take (k + 1)))) := by show _ = _; rw [e2]; simp [flat]
        clear e1 e2 hm1
        go_wp2_with (at_builtin; refine wpList_append_row rfl (.tmp 29) (.tmp 31) 43 rfl 60 i1 _ 4 32 Try.underlying43 gi gz0 gz1 gz2 rfl (by decide) (by decide) w.heap.size lo l lc (flat (partL c (S.take k))) rfl HR2.out (wr.heap.size + 1) 0 1 1 (cells ⟨im, ic, iid, .int .i64 z⟩) rfl rfl HN.out ?_ ?_ ?_ ?_)
        · first | (intro u hu; simp [cells] at hu; rcases hu with rfl | rfl | rfl | rfl <;> rfl) | (simp [cells]; done) | (refine ⟨rfl, rfl, rfl, rfl⟩)
        · omega
        · first | omega | (simp; omega)
        intro ro' rc' w3 hr3 hf3 _
        have HF3 : Hid (Fr none0 w w3) := HF1.out.rowed HR2.out (Nat.le_refl _) hf3
        rw [HFL.out] at hr3
        have HR3 := Lib.hid hr3
        have HR4 : Hid (Row w.heap.size w3 3 1 ro m rc (partX c (S.take k))) := HR1.out.fr hf3 (HR1.out.apart HR2.out (by decide))
        clear hr3 hf3 HF1 HR1 HR2 HN HK d0 d1 d2 d3 hb2
        go_wp2_with fail
        go_roundw
        case rel => exact ⟨k + 1, m, l + 1, ro, ro', rc, rc', by omega, by go_num, rfl, rfl, hm, by have := hle.out; have := HM1.out; have := hpl.out.2; omega, HF3.out, by rw [HE1.out]; exact hme.out, by have := hle.out; have := HM1.out; show l + 1 = _; omega, by rw [HE1.out]; exact HR4.out, HR3.out⟩
        case measure => simp [intOf]; omega
    · have hke : k = S.length := by omega
      have hr' := hr.out
      have hr2' := hr2.out
      have hme' := hme.out
      have hle' := hle.out
      rw [hke, List.take_length] at hr' hr2' hme' hle'
      have hblk := HW.out.blk.fr hf.out (fun h => h)
      have hput := put (n := l) HW.out.low hblk hle' (by rw [← hle']; exact hr2'.base hB) (fun it hit => HW.out.xs it (List.mem_filter.1 hit).1) (by rw [← hle']; omega)
      have hr6 := hr'.fr (w' := wr.setCell ⟨pb, 2, none⟩ (.slice lo l lc)) ((Fr.refl (fun k => k = pb) wr).setCell (p := ⟨pb, 2, none⟩) (fun _ => rfl) _) (fun i hi e => by
        subst e
        have h1 := (hr'.tag _ hblk.lt hi).1
        have h2 := HW.out.lt
        omega)
      have HR6 := Lib.hid hr6
      have HP := Lib.hid hput
      have HME := Lib.hid hme'
      have f2 := hblk.frozen 2
      have d2 : (wr.cell? ⟨pb, 2, none⟩).isSome = true := by rw [hblk.cell 2]; rfl
      have d2' : wr.cell? ⟨pb, 2, none⟩ = some (.slice ao S.length cap) := hblk.cell 2
      clear hr hr2 hr' hr2' hme hle hme' hle' hr6 hput hblk hke d2
      go_wp2_with fail
      go_ret
      refine ⟨ro, rc, lo, lc, ?_, ?_, HP.out.2, (Fy.of_below (hf.out.below (Nat.le_refl _) (fun _ h => h.elim))).trans HP.out.1⟩
      · rw [← HME.out]; rfl
      · rw [← HME.out]; exact HR6.out
end Go.Proofs.Ytceomfdppbmebaa
