/- LockCloses, by a walk over the contracts. -/
import Derived.Test.YtgcimkbggnjcdaaW21
namespace Go.Proofs.Ytgcimkbggnjcdaa
open Go.RowKit Go.WideShapes

theorem others_twice (op : Int) (S : List Lk) : others op (others op S) = others op S ∧ ofN op (others op S) = 0 := by
  unfold others ofN
  rw [List.filter_filter, List.filter_filter]
  constructor
  · congr 1; funext a; simp
  · rw [List.length_eq_zero_iff, List.filter_eq_nil_iff]
    intro a _
    simp
theorem Tb.tof_lt {B : Nat} {w : World} {pb : Nat} {S : List Lk} {ao : Option Addr} {cap : Nat} (h : Tb B w pb S ao cap) : ∀ k, Tof pb ao k → k < w.heap.size := by
  rintro k (rfl | ⟨a, rfl, rfl⟩)
  · exact h.blk.lt
  · exact h.row.lt
/-- A row made later than the table's stays while the table turns. -/
theorem Row.later {B C : Nat} {w w' : World} {pb : Nat} {S : List Lk} {ao lo : Option Addr} {cap n c : Nat} {xs : List Value} {w0 : World} (h : Row C w 34 4 lo n c xs) (ht : Tb B w0 pb S ao cap) (h0 : w0.heap.size ≤ C) (hf : Fr (Tof pb ao) w w') : Row C w' 34 4 lo n c xs := by
  refine h.fr hf ?_
  intro k hk hk2
  have h1 := ht.tof_lt k hk2
  have h2 : k < w.heap.size := by obtain ⟨a, rfl, rfl⟩ := hk; exact h.lt
  have := (h.tag k h2 hk).1
  omega

set_option maxHeartbeats 2000000 in
theorem LockCloses_walk (ao : Option Addr) (n c : Nat) (A : Nat → ActV) (op : Int) (w : World) (hA : Acts w ao n A) (hn : n ≤ 9223372036854775807) (_ : -9223372036854775808 ≤ op) (_ : op ≤ 9223372036854775807) :
    Calls Try.prog 9 #[.slice ao n c, .int .i64 op] w fun e w' => e = .returned (.bool true) ∧ Below w.heap.size w w' := by
  obtain ⟨i1, gi, gz0, gz1, gz2⟩ := info_parts inf34
  go_enter Try.func9, Try.ntmps9
  go_wp2_with fail
  refine (played_any w ao n c A hA hn).mono ?_
  rintro e w1 ⟨pb, rb, S, qo, qc, bo, d, rfl, hh, hi, hb⟩
  have HB1 := Lib.hid hb
  have HT1 := Lib.hid hh.t
  have hS := hh.t.len
  clear hb hh hA hi
  go_wp2_with fail
  refine (all_any w.heap.size w1 pb S qo qc HT1.out).mono ?_
  rintro e w2 ⟨ro, rc, rfl, hr2, hb2⟩
  have HB2 : Hid (Below w.heap.size w w2) := HB1.out.trans (hb2.mono HB1.out.size)
  have HT2 := Lib.hid (HT1.out.below hb2)
  have HR2 := Lib.hid hr2
  clear hr2 hb2
  go_wp2_with fail
  go_loopw [8, 10] (fun s8 s10 wr => ∃ (k l : Nat) (lo : Option Addr) (lc : Nat), k ≤ S.length ∧ s10 = .int .i64 k ∧ s8 = .slice lo l lc ∧ l ≤ 64 ∧ Hid (Fr none0 w2 wr) ∧ Hid (l = (others op (S.take k)).length) ∧ Hid (Row w2.heap.size wr 34 4 lo l lc (flat (others op (S.take k))))) (fun _ s _ => S.length - (intOf s).toNat)
  case atStart => exact ⟨0, 0, none, 0, Nat.zero_le _, rfl, rfl, Nat.zero_le _, Fr.refl _ _, rfl, Row.nil _ _ _ _⟩
  case round =>
    obtain ⟨k, l, lo, lc, hk, rfl, rfl, hl, hf, hle, hr2⟩ := hrel
    have hwr : Hid (Row w1.heap.size wr 34 4 ro S.length rc (flat S)) := HR2.out.fr hf.out (fun _ _ h => h)
    by_cases hlt : k < S.length
    · obtain ⟨g, rfl⟩ := HR2.out.form (by omega)
      have hk2 : S[k]? = some S[k] := List.getElem?_eq_getElem hlt
      obtain ⟨d0, d1, d2, d3⟩ := row_cells hwr.out hk2
      have HK := Lib.hid hk2
      have hpl := Lib.hid (others_take_len op S (k + 1))
      clear hk2
      generalize S[k] = it at *
      obtain ⟨yo, ya, yn, ym⟩ := it
      dsimp only at d0 d1 d2 d3
      have hb := hf.out.size
      by_cases hq : yo = op
      · have HE2 := Lib.hid (take_yes HK.out hq).1
        subst hq
        clear HK d1 d2 d3
        go_wp2_with fail
        go_roundw
        case rel => exact ⟨k + 1, l, lo, lc, by omega, by go_num, rfl, hl, hf.out, by rw [HE2.out]; exact hle.out, by rw [HE2.out]; exact hr2.out⟩
        case measure => simp [intOf]; omega
      · have e2 := (take_no HK.out hq).1
        have hb2 : (yo != op) = true := by simpa using hq
        have HF1 : Hid (Fr none0 w2 (wr.alloc (.cells #[.int .i64 yo, .int .u64 (ya : Int), .int .u64 (yn : Int), .int .u16 (ym : Int)] 34))) := hf.out.alloc _
        have HR3 : Hid (Row w2.heap.size (wr.alloc (.cells #[.int .i64 yo, .int .u64 (ya : Int), .int .u64 (yn : Int), .int .u16 (ym : Int)] 34)) 34 4 lo l lc (flat (others op (S.take k)))) := hr2.out.fr ((Fr.refl none0 _).alloc _) (fun _ _ h => h)
        have HN := Lib.hid (news_new wr #[.int .i64 yo, .int .u64 (ya : Int), .int .u64 (yn : Int), .int .u16 (ym : Int)] 34 (cells ⟨yo, ya, yn, ym⟩) rfl)
        have hm1 : (others op (S.take k)).length + 1 = (others op (S.take (k + 1))).length := by rw [e2]; simp
        have HM1 := Lib.hid hm1
        have HFL : Hid (flat (others op (S.take k)) ++ cells ⟨yo, ya, yn, ym⟩ = flat (others op (S.take (k + 1)))) := by show _ = _; rw [e2]; simp [flat]
        clear e2 hm1
        go_wp2_with (at_builtin; refine wpList_append_row rfl (.tmp 33) (.tmp 38) 30 rfl 34 i1 _ 4 32 Try.underlying30 gi gz0 gz1 gz2 rfl (by decide) (by decide) w2.heap.size lo l lc (flat (others op (S.take k))) rfl HR3.out wr.heap.size 0 1 1 (cells ⟨yo, ya, yn, ym⟩) rfl rfl HN.out ?_ ?_ ?_ ?_)
        · first | (intro u hu; simp [cells] at hu; rcases hu with rfl | rfl | rfl | rfl <;> rfl) | (simp [cells]; done) | (refine ⟨rfl, rfl, rfl, rfl⟩)
        · omega
        · first | omega | (simp; omega)
        intro ro' rc' w3 hr3 hf3 _
        have HF3 : Hid (Fr none0 w2 w3) := HF1.out.rowed HR3.out (Nat.le_refl _) hf3
        rw [HFL.out] at hr3
        have HR4 := Lib.hid hr3
        clear hr3 hf3 HF1 HR3 HN HK d0 d1 d2 d3 hb2 hq
        go_wp2_with fail
        go_roundw
        case rel => exact ⟨k + 1, l + 1, ro', rc', by omega, by go_num, rfl, by have := hle.out; have := HM1.out; have := hpl.out; omega, HF3.out, by have := hle.out; have := HM1.out; show l + 1 = _; omega, HR4.out⟩
        case measure => simp [intOf]; omega
    · have hke : k = S.length := by omega
      have hr2' := hr2.out
      have hle' := hle.out
      rw [hke, List.take_length] at hr2' hle'
      obtain ⟨S2, hS2⟩ : ∃ S2, others op S = S2 := ⟨_, rfl⟩
      have hof := of_others op S
      obtain ⟨t1, t2⟩ := others_twice op S
      rw [hS2] at hr2' hle' hof t1 t2
      subst hle'
      have HS2 := Lib.hid hS2
      have HO := Lib.hid t1
      have HO2 := Lib.hid t2
      have HRW := Lib.hid hr2'
      have HT3 : Hid (Tb w.heap.size wr pb S qo qc) := HT2.out.below (hf.out.below (Nat.le_refl _) (fun _ h => h.elim))
      have HB3 : Hid (Below w.heap.size w wr) := HB2.out.trans ((hf.out.below (Nat.le_refl _) (fun _ h => h.elim)).mono HB2.out.size)
      have hv : IntKind.i64.wrap ((S.length : Int) - (S2.length : Int)) = (ofN op S : Int) := by
        rw [IntWalk.i64_in _ (by omega)]; omega
      have HV := Lib.hid hv
      have hs32 := hf.out.size
      clear hr2 hr2' hle hke hof t1 t2 hS2 hf hwr hv
      go_wp2_with fail
      refine (of_any w.heap.size wr pb S qo qc op HT3.out).mono ?_
      rintro e w4 ⟨rfl, hb4⟩
      have HB4 : Hid (Below w.heap.size w w4) := HB3.out.trans (hb4.mono HB3.out.size)
      have HT4 := Lib.hid (HT3.out.below hb4)
      have HRW4 : Hid (Row w2.heap.size w4 34 4 lo S2.length lc (flat S2)) := HRW.out.fr (Fr.of_below (T := none0) hb4) (fun _ _ h => h)
      clear hb4
      go_wp2_with fail
      refine (close_any w.heap.size w4 pb S qo qc op HT4.out).mono ?_
      rw [HS2.out]
      rintro e w5 ⟨rfl, qo5, qc5, ht5, hf5, _⟩
      have HT5 := Lib.hid ht5
      have HB5 : Hid (Below w.heap.size w w5) := HB4.out.trans (HT4.out.frB hf5 HB4.out.size)
      have HRW5 : Hid (Row w2.heap.size w5 34 4 lo S2.length lc (flat S2)) := HRW4.out.later HT2.out (Nat.le_refl _) hf5
      have hv := HV.out
      clear ht5 hf5
      go_wp2_with fail
      clear hv
      refine (all_any w.heap.size w5 pb S2 qo5 qc5 HT5.out).mono ?_
      rintro e w6 ⟨uo, uc, rfl, hr6, hb6⟩
      have HB6 : Hid (Below w.heap.size w w6) := HB5.out.trans (hb6.mono HB5.out.size)
      have HT6 := Lib.hid (HT5.out.below hb6)
      have HRW6 : Hid (Row w2.heap.size w6 34 4 lo S2.length lc (flat S2)) := HRW5.out.fr (Fr.of_below (T := none0) hb6) (fun _ _ h => h)
      have HR6 := Lib.hid hr6
      have hS2l := HT6.out.len
      clear hr6 hb6
      go_wp2_with fail
      refine (locks_same _ _ w6 uo lo uc lc S2 HR6.out HRW6.out (by omega)).mono ?_
      rintro e w7 ⟨rfl, hb7⟩
      have HB7 : Hid (Below w.heap.size w w7) := HB6.out.trans (hb7.mono HB6.out.size)
      have HT7 := Lib.hid (HT6.out.below hb7)
      clear hb7
      go_wp2_with fail
      refine (of_any w.heap.size w7 pb S2 qo5 qc5 op HT7.out).mono ?_
      rw [HO2.out]
      rintro e w8 ⟨rfl, hb8⟩
      have HB8 : Hid (Below w.heap.size w w8) := HB7.out.trans (hb8.mono HB7.out.size)
      have HT8 := Lib.hid (HT7.out.below hb8)
      clear hb8
      go_wp2_with fail
      refine (close_any w.heap.size w8 pb S2 qo5 qc5 op HT8.out).mono ?_
      rw [HO.out, HO2.out]
      rintro e w9 ⟨rfl, qo9, qc9, ht9, hf9, _⟩
      have HB9 : Hid (Below w.heap.size w w9) := HB8.out.trans (HT8.out.frB hf9 HB8.out.size)
      clear ht9 hf9
      go_wp2_with fail
      refine (works_any _).mono ?_
      rintro e w10 ⟨rfl, hb10⟩
      go_wp2_with fail
      go_ret
      exact ⟨rfl, HB9.out.trans (hb10.mono HB9.out.size)⟩
end Go.Proofs.Ytgcimkbggnjcdaa
