/- Contracts of the document's Late and of Ints, by walks. -/
import Derived.Test.YtbgjajhnjkldkaaW10
namespace Go.Proofs.Ytbgjajhnjkldkaa
open Go.RowKit Go.WideShapes Go.Maps

theorem lateS_step {S : List It} {i : Nat} {x : It} (tick : Int) (h : S[i]? = some x) : lateS (S.take (i + 1)) tick = if x.t ≤ tick then lateS (S.take i) tick ++ [x.k] else lateS (S.take i) tick := by
  unfold lateS
  rw [List.take_add_one, h, Option.toList_some, List.filter_append, List.map_append]
  by_cases hc : x.t ≤ tick
  · rw [if_pos hc, List.filter_cons_of_pos (by simpa using hc)]; rfl
  · rw [if_neg hc, List.filter_cons_of_neg (by simpa using hc)]; simp
theorem lateS_len (S : List It) (tick : Int) (i : Nat) : (lateS (S.take i) tick).length ≤ i := by
  unfold lateS
  rw [List.length_map]
  refine Nat.le_trans (List.length_filter_le _ _) ?_
  rw [List.length_take]; omega

set_option maxRecDepth 100000 in
set_option maxHeartbeats 2000000 in
theorem rlate_any (B : Nat) (w : World) (rb : Nat) (S : List It) (tick : Int) (h : RfA B w rb S) (hlen : S.length < 100000) :
    Calls Try.prog 15 #[.pointer (some ⟨rb, 0, none⟩), .int .i64 tick] w fun e w' => ∃ ro rc, e = .returned (.slice ro (lateS S tick).length rc) ∧ Row w.heap.size w' 3 1 ro (lateS S tick).length rc (ints (lateS S tick)) ∧ Below w.heap.size w w' := by
  obtain ⟨lo, lc, h⟩ := h
  have c1 := h.c0
  have hrl := h.blk.lt
  have HROW := Lib.hid h.row
  obtain ⟨i0, hi, hz0, hz1, hz2⟩ := info_parts inf3
  clear h
  go_enter Try.func15, Try.ntmps15
  go_wp2_with fail
  go_loopw [5, 6] (fun s5 s6 wr => ∃ (i : Nat) (m : Nat) (qo : Option Addr) (qc : Nat), i ≤ S.length ∧ m ≤ i ∧ Hid (m = (lateS (S.take i) tick).length) ∧ s6 = .int .i64 i ∧ s5 = .slice qo m qc ∧ Hid (Row w.heap.size wr 3 1 qo m qc (ints (lateS (S.take i) tick))) ∧ Hid (Below w.heap.size w wr)) (fun _ s6 _ => S.length - (intOf s6).toNat)
  case atStart => exact ⟨0, 0, none, 0, Nat.zero_le _, Nat.zero_le _, rfl, rfl, rfl, Row.nil _ _ _ _, Below.refl _ _⟩
  case round =>
    obtain ⟨i, m, qo, qc, hi1, hmi, hm, rfl, rfl, hrow, hbl⟩ := hrel
    have c1' : wr.cell? ⟨rb, 0, none⟩ = some (.slice lo S.length lc) := (hbl.out.cell (p := ⟨rb, 0, none⟩) hrl).trans c1
    by_cases hlt : i < S.length
    · obtain ⟨g, rfl⟩ := HROW.out.form (by omega)
      have hgl : g < w.heap.size := HROW.out.lt
      have hi2 : S[i]? = some S[i] := List.getElem?_eq_getElem hlt
      have d0 : wr.cell? ⟨g, i * 19, none⟩ = some (.int .i64 S[i].k) := (hbl.out.cell (p := ⟨g, i * 19, none⟩) hgl).trans (rowI_cell HROW.out hi2 (j := 0) (by omega))
      have d18 : wr.cell? ⟨g, i * 19 + 18, none⟩ = some (.int .i64 S[i].t) := (hbl.out.cell (p := ⟨g, i * 19 + 18, none⟩) hgl).trans (rowI_cell HROW.out hi2 (j := 18) (by omega))
      have HTK := Lib.hid (lateS_step tick hi2)
      clear hi2
      generalize S[i] = y at *
      obtain ⟨z, hz⟩ : ∃ z, y.k = z := ⟨_, rfl⟩
      obtain ⟨t, ht⟩ : ∃ z, y.t = z := ⟨_, rfl⟩
      rw [hz] at d0 HTK
      rw [ht] at d18 HTK
      clear hz ht
      have hi3 : (i : Int) < (S.length : Int) := by omega
      by_cases hc : t ≤ tick
      · rw [if_pos hc] at HTK
        have hal : Below w.heap.size wr (wr.alloc (.cells #[.int .i64 z] 3)) := (Below.refl _ _).alloc hbl.out.size _
        have HB4 : Hid (Below w.heap.size w (wr.alloc (.cells #[.int .i64 z] 3))) := hbl.out.trans hal
        have HR4 : Hid (Row w.heap.size (wr.alloc (.cells #[.int .i64 z] 3)) 3 1 qo m qc (ints (lateS (S.take i) tick))) := hrow.out.fr ((Fr.refl none0 wr).alloc _) (fun _ _ h => h)
        have HS4 : Hid (Src (wr.alloc (.cells #[.int .i64 z] 3)) 1 (some ⟨wr.heap.size, 0, none⟩) 1 [.int .i64 z]) := by
          refine ⟨rfl, fun j u hj => ⟨wr.heap.size, 0, rfl, by simp, ?_⟩⟩
          rw [Nat.zero_add, (Blk.new wr 3 #[.int .i64 z]).cell j]
          simpa using hj
        have hws : w.heap.size ≤ wr.heap.size + 1 := by have := hbl.out.size; omega
        have HNM : Hid (m + 1 = (lateS (S.take (i + 1)) tick).length) := by
          show _ = _
          rw [HTK.out, List.length_append, ← hm.out]; rfl
        have HVL : Hid (ints (lateS (S.take i) tick) ++ [.int .i64 z] = ints (lateS (S.take (i + 1)) tick)) := by
          show _ = _
          rw [HTK.out]; unfold ints; rw [List.map_append]; rfl
        clear hal
        go_wp2_with (at_builtin; refine wpList_append_src _ rfl (.tmp 26) (.tmp 35) 32 rfl w.heap.size 3 i0 _ 1 8 Try.underlying32 hi hz0 hz1 hz2 rfl (by decide) qo m qc (ints (lateS (S.take i) tick)) rfl HR4.out (some ⟨wr.heap.size, 0, none⟩) 1 1 [.int .i64 z] rfl HS4.out (by intro u hu; simp at hu; subst hu; rfl) ?_ ?_ ?_ ?_)
        · unfold maxLen; omega
        · omega
        · first | omega | (simp; omega)
        intro lo' lc' w5 hr5 hf5 _
        rw [HVL.out] at hr5
        have HR5 := Lib.hid hr5
        have HB5 : Hid (Below w.heap.size w w5) := ((Fr.of_below (T := none0) HB4.out).rowed HR4.out (Nat.le_refl _) hf5).below (Nat.le_refl _) (fun _ h => h.elim)
        clear hr5 hf5
        go_wp2_with fail
        go_roundw
        case rel => exact ⟨i + 1, m + 1, lo', lc', by omega, by omega, HNM.out, by go_num, by go_num, HR5.out, HB5.out⟩
        case measure => simp [intOf]; omega
      · rw [if_neg hc] at HTK
        have HNM : Hid (m = (lateS (S.take (i + 1)) tick).length) := by
          show _ = _
          rw [HTK.out]; exact hm.out
        have HR5 : Hid (Row w.heap.size wr 3 1 qo m qc (ints (lateS (S.take (i + 1)) tick))) := by
          show Row _ _ _ _ _ _ _ _
          rw [HTK.out]; exact hrow.out
        go_wp2_with fail
        go_roundw
        case rel => exact ⟨i + 1, m, qo, qc, by omega, by omega, HNM.out, by go_num, rfl, HR5.out, hbl.out⟩
        case measure => simp [intOf]; omega
    · have e : i = S.length := by omega
      subst e
      have HF : Hid (Row w.heap.size wr 3 1 qo m qc (ints (lateS S tick))) := by have := hrow.out; rw [List.take_of_length_le (Nat.le_refl _)] at this; exact this
      have hmm : m = (lateS S tick).length := by have := hm.out; rw [List.take_of_length_le (Nat.le_refl _)] at this; exact this
      clear hrow hm
      subst hmm
      go_wp2_with fail
      go_ret
      exact ⟨qo, qc, rfl, HF.out, hbl.out⟩

/-- Ints, at the same numbers. -/
theorem ints_same (w : World) (ao bo : Option Addr) (n c c' : Nat) (zs : List Int) (ha : Src w 1 ao n (ints zs)) (hb : Src w 1 bo n (ints zs)) (hn : n ≤ 9223372036854775806) :
    Calls Try.prog 13 #[.slice ao n c, .slice bo n c'] w fun e w' => e = .returned (.bool true) ∧ Below w.heap.size w w' := by
  have HA := Lib.hid ha
  have HB := Lib.hid hb
  have hlz : zs.length = n := by have := ha.1; rw [ints_len] at this; omega
  clear ha hb
  go_enter Try.func13, Try.ntmps13
  go_wp2_with fail
  go_loopw [4, 5] (fun _ s5 wr => ∃ k : Nat, k ≤ n ∧ s5 = .int .i64 k ∧ Hid (Fr none0 w wr)) (fun _ s _ => n - (intOf s).toNat)
  case atStart => exact ⟨0, Nat.zero_le _, rfl, Fr.refl _ _⟩
  case round =>
    obtain ⟨k, hk, rfl, hf⟩ := hrel
    by_cases hlt : k < n
    · have hk2 : (ints zs)[k]? = some ((ints zs)[k]'(by rw [ints_len]; omega)) := List.getElem?_eq_getElem _
      obtain ⟨z, _, hz⟩ := List.mem_map.1 (List.mem_of_getElem? hk2)
      rw [← hz] at hk2
      obtain ⟨b, o, rfl, hbl, hc⟩ := HA.out.2 _ _ hk2
      obtain ⟨b', o', rfl, hbl', hc'⟩ := HB.out.2 _ _ hk2
      have d0 : wr.cell? ⟨b, o + k, none⟩ = some (.int .i64 z) := (hf.out.cell (p := ⟨b, _, none⟩) hbl (fun h => h)).trans hc
      have d1 : wr.cell? ⟨b', o' + k, none⟩ = some (.int .i64 z) := (hf.out.cell (p := ⟨b', _, none⟩) hbl' (fun h => h)).trans hc'
      have i1 : (0 : Int) ≤ (k : Int) := by omega
      have i2 : (k : Int) < (n : Int) := by omega
      clear hc hc' hz hk2
      go_wp2_with fail
      go_quiet (fail)
      go_wp2_with fail
      go_roundw
      case rel => exact ⟨k + 1, by omega, by go_num, hf.out.drewN _⟩
      case measure => simp [intOf]; omega
    · go_wp2_with fail
      go_ret
      exact ⟨rfl, hf.out.below (Nat.le_refl _) (fun _ h => h.elim)⟩
end Go.Proofs.Ytbgjajhnjkldkaa
