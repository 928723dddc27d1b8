/- slices.DeleteFunc over a table's row, the table's Close, by walks. -/
import Derived.Test.YtgcimkbggnjcdaaW11
namespace Go.Proofs.Ytgcimkbggnjcdaa
open Go.RowKit

theorem flat_set {T : List Lk} {i : Nat} (hi : i < T.length) (x : Lk) :
    ((((flat T).set (i * 4) (.int .i64 x.op)).set (i * 4 + 1) (.int .u64 (x.a : Int))).set (i * 4 + 2) (.int .u64 (x.n : Int))).set (i * 4 + 3) (.int .u16 (x.mode : Int)) = flat (T.set i x) := by
  apply List.ext_getElem?
  intro j
  have hl : (flat T).length = T.length * 4 := flat_length T
  by_cases hj : j < T.length * 4
  · have hq : j / 4 < T.length := by omega
    have hr : j % 4 < 4 := Nat.mod_lt _ (by omega)
    have e : j = (j / 4) * 4 + j % 4 := by omega
    have hset : (T.set i x)[j / 4]? = if i = j / 4 then some x else T[j / 4]? := by
      rw [List.getElem?_set]
      by_cases h : i = j / 4
      · rw [if_pos h, if_pos (by omega), if_pos h]
      · rw [if_neg h, if_neg h]
    by_cases hij : i = j / 4
    · rw [if_pos hij] at hset
      have h2 := flat_at hset hr
      rw [← e] at h2
      rw [h2]
      have hj4 : j % 4 = 0 ∨ j % 4 = 1 ∨ j % 4 = 2 ∨ j % 4 = 3 := by omega
      rcases hj4 with h4 | h4 | h4 | h4
      · have ej : j = i * 4 := by omega
        rw [h4, ej]
        simp [List.getElem?_set, cells, hl]
        omega
      · have ej : j = i * 4 + 1 := by omega
        rw [h4, ej]
        simp [List.getElem?_set, cells, hl]
        omega
      · have ej : j = i * 4 + 2 := by omega
        rw [h4, ej]
        simp [List.getElem?_set, cells, hl]
        omega
      · have ej : j = i * 4 + 3 := by omega
        rw [h4, ej]
        simp [List.getElem?_set, cells, hl]
        omega
    · rw [if_neg hij] at hset
      have h1 : T[j / 4]? = some T[j / 4] := List.getElem?_eq_getElem hq
      rw [h1] at hset
      have h2 := flat_at hset hr
      have h3 := flat_at h1 hr
      rw [← e] at h2 h3
      rw [h2, ← h3, List.getElem?_set, if_neg (by omega), List.getElem?_set, if_neg (by omega), List.getElem?_set, if_neg (by omega), List.getElem?_set, if_neg (by omega)]
  · rw [List.getElem?_eq_none (by simp [hl]; omega), List.getElem?_eq_none (by rw [flat_length]; simp; omega)]

theorem first_some {p : Lk → Bool} {S : List Lk} {k : Nat} (h : S.findIdx? p = some k) : firstAt p S = (k : Int) := by unfold firstAt; rw [h]
theorem first_none {p : Lk → Bool} {S : List Lk} (h : S.findIdx? p = none) : firstAt p S = -1 := by unfold firstAt; rw [h]
theorem others_all {o : Int} {S : List Lk} (h : S.findIdx? (fun x => decide (x.op = o)) = none) : others o S = S := by
  unfold others
  rw [List.filter_eq_self]
  intro x hx
  rw [List.findIdx?_eq_none_iff] at h
  simpa using h x hx
theorem others_upto {o : Int} {S : List Lk} {k : Nat} (h : S.findIdx? (fun x => decide (x.op = o)) = some k) : k < S.length ∧ others o (S.take (k + 1)) = S.take k := by
  obtain ⟨hl, hp, hb⟩ := List.findIdx?_eq_some_iff_getElem.1 h
  refine ⟨hl, ?_⟩
  have hx : S[k]? = some S[k] := List.getElem?_eq_getElem hl
  rw [(take_yes hx (by simpa using hp)).1]
  unfold others
  rw [List.filter_eq_self]
  intro x hx
  obtain ⟨j, hj⟩ := List.mem_iff_getElem?.1 hx
  rw [List.getElem?_take] at hj
  split at hj
  · rename_i hjk
    obtain ⟨hjl, hje⟩ := List.getElem?_eq_some_iff.1 hj
    have := hb j hjk
    rw [hje] at this
    simpa using this
  · cases hj

set_option maxHeartbeats 4000000 in
theorem delete_any (w : World) (B : Nat) (ao : Option Addr) (cap : Nat) (S : List Lk) (op : Int) (b : Nat) (hr : Row B w 34 4 ao S.length cap (flat S)) (hS : S.length ≤ 64) (cb : w.cell? ⟨b, 0, none⟩ = some (.int .i64 op)) (hbr : ¬ rowOf ao b) :
    Calls Try.prog 34 #[.slice ao S.length cap, .func (Fn.func 35) #[] #[.pointer (some ⟨b, 0, none⟩)]] w fun e w' => ∃ cap', e = .returned (.slice ao (others op S).length cap') ∧ Row B w' 34 4 ao (others op S).length cap' (flat (others op S)) ∧ Fr (rowOf ao) w w' := by
  have HR := Lib.hid hr
  have hbl : b < w.heap.size := World.block_lt_of_cell? w _ cb
  have HI := Lib.hid (index_any w B ao cap S 35 b (fun x => decide (x.op = op)) hr (by omega) (Or.inr rfl) (fun W y hW _ => closec_any W op y b ((hW.cell (p := ⟨b, 0, none⟩) hbl).trans cb)))
  have HCB := Lib.hid cb
  clear hr cb
  cases hfi : S.findIdx? (fun x => decide (x.op = op)) with
  | none =>
    have HO := Lib.hid (others_all hfi)
    rw [first_none hfi] at HI
    rw [HO.out]
    clear hfi
    go_enter Try.func34, Try.ntmps34
    go_wp2_with fail
    refine HI.out.mono ?_
    rintro e w2 ⟨rfl, hb2⟩
    have HB2 := Lib.hid hb2
    clear hb2
    go_wp2_with fail
    go_ret
    exact ⟨cap, rfl, HR.out.fr (Fr.of_below (T := none0) HB2.out) (fun _ _ h => h), Fr.of_below HB2.out⟩
  | some i0 =>
    obtain ⟨hi0, hup⟩ := others_upto hfi
    have HUP := Lib.hid hup
    rw [first_some hfi] at HI
    clear hfi hup
    obtain ⟨g, rfl⟩ := HR.out.form (by omega)
    have hcap := HR.out.le
    have hcm : cap ≤ 9223372036854775807 := by have := HR.out.capmax; unfold maxLen at this; omega
    go_enter Try.func34, Try.ntmps34
    go_wp2_with fail
    refine HI.out.mono ?_
    rintro e w2 ⟨rfl, hb2⟩
    have HR2 : Hid (Row B w2 34 4 (some ⟨g, 0, none⟩) S.length cap (flat S)) := HR.out.fr (Fr.of_below (T := none0) hb2) (fun _ _ h => h)
    have HF2 : Hid (Fr (rowOf (some ⟨g, 0, none⟩)) w w2) := Fr.of_below hb2
    clear hb2
    go_wp2_with fail
    go_loopw [5, 6, 7] (fun s5 s6 _ wr => ∃ (i j : Nat) (T : List Lk), i < j ∧ j ≤ S.length ∧ s5 = .int .i64 i ∧ s6 = .int .i64 j ∧ T.length = S.length ∧ Hid (Fr (rowOf (some ⟨g, 0, none⟩)) w wr) ∧ Hid (Row B wr 34 4 (some ⟨g, 0, none⟩) S.length cap (flat T)) ∧ Hid (i = (others op (S.take j)).length) ∧ Hid (T.take i = others op (S.take j)) ∧ Hid (T.drop j = S.drop j)) (fun _ s _ _ => S.length - (intOf s).toNat)
    case atStart => exact ⟨i0, i0 + 1, S, by omega, by omega, rfl, by go_num, rfl, HF2.out, HR2.out, by show i0 = _; rw [HUP.out, List.length_take]; omega, HUP.out.symm, rfl⟩
    case round =>
      obtain ⟨i, j, T, hij, hj, rfl, rfl, hTl, hf, hr, hi, hpre, hsuf⟩ := hrel
      have hc : wr.cell? ⟨b, 0, none⟩ = some (.int .i64 op) := (hf.out.cell (p := ⟨b, 0, none⟩) hbl hbr).trans HCB.out
      by_cases hlt : j < S.length
      · have hk2 : S[j]? = some S[j] := List.getElem?_eq_getElem hlt
        have hk3 : T[j]? = some S[j] := by
          have := congrArg (fun l => l[0]?) hsuf.out
          simp only [List.getElem?_drop, Nat.add_zero] at this
          rw [this, hk2]
        obtain ⟨d0, d1, d2, d3⟩ := row_cells hr.out hk3
        have HK := Lib.hid hk2
        have HK3 := Lib.hid hk3
        clear hk2 hk3
        generalize S[j] = y at *
        obtain ⟨yo, ya, yn, ym⟩ := y
        dsimp only at d0 d1 d2 d3
        have hbs : b < wr.heap.size := Nat.lt_of_lt_of_le hbl hf.out.size
        have HB1 : Hid (Fr (rowOf (some ⟨g, 0, none⟩)) w (wr.alloc (.cells #[.int .i64 yo, .int .u64 (ya : Int), .int .u64 (yn : Int), .int .u16 (ym : Int)] 34))) := hf.out.alloc _
        have HR1 : Hid (Row B (wr.alloc (.cells #[.int .i64 yo, .int .u64 (ya : Int), .int .u64 (yn : Int), .int .u16 (ym : Int)] 34)) 34 4 (some ⟨g, 0, none⟩) S.length cap (flat T)) := hr.out.fr ((Fr.refl none0 _).alloc _) (fun _ _ h => h)
        have HX1 := Lib.hid (LkAt.new wr yo ya yn ym)
        have hc1 : (wr.alloc (.cells #[.int .i64 yo, .int .u64 (ya : Int), .int .u64 (yn : Int), .int .u16 (ym : Int)] 34)).cell? ⟨b, 0, none⟩ = some (.int .i64 op) := by
          have := ((Fr.refl none0 wr).alloc (.cells #[.int .i64 yo, .int .u64 (ya : Int), .int .u64 (yn : Int), .int .u16 (ym : Int)] 34)).cell (p := ⟨b, 0, none⟩) hbs (fun h => h)
          rw [this]; exact hc
        have HC1 := Lib.hid hc1
        clear hc1
        go_wp2_with fail
        generalize wr.alloc (.cells #[.int .i64 yo, .int .u64 (ya : Int), .int .u64 (yn : Int), .int .u16 (ym : Int)] 34) = w3 at *
        refine (closec_any w3 op ⟨yo, ya, yn, ym⟩ b HC1.out).mono ?_
        dsimp only
        rintro e w4 ⟨rfl, hb4⟩
        have HF4 : Hid (Fr (rowOf (some ⟨g, 0, none⟩)) w w4) := HB1.out.trans (Fr.of_below (T := none0) hb4) (fun _ _ h => h.elim)
        have HR4 : Hid (Row B w4 34 4 (some ⟨g, 0, none⟩) S.length cap (flat T)) := HR1.out.fr (Fr.of_below (T := none0) hb4) (fun _ _ h => h)
        have HX4 := Lib.hid (HX1.out.below hb4)
        clear hb4 d0 d1 d2 d3 hc HB1 HR1 HX1 HC1 hf hr
        have hsuf2 : T.drop (j + 1) = S.drop (j + 1) := by
          have := congrArg (List.drop 1) hsuf.out
          simpa [List.drop_drop, Nat.add_comm] using this
        by_cases hq : yo = op
        · have HE := Lib.hid (take_yes HK.out hq).1
          have hd : decide (yo = op) = true := by simpa using hq
          rw [hd]
          clear hd hq HK HK3
          have HS2 := Lib.hid hsuf2
          clear hsuf2
          go_wp2_with fail
          go_roundw
          case rel =>
            (repeat apply Exists.intro)
            exact ⟨⟨i, j + 1, T, by omega, by omega, rfl, by go_num, hTl, HF4.out, HR4.out, by rw [HE.out]; exact hi.out, by rw [HE.out]; exact hpre.out, HS2.out⟩, rfl⟩
          case measure => simp [intOf]; omega
        · have HE := Lib.hid (take_no HK.out hq).1
          have hd : decide (yo = op) = false := by simpa using hq
          rw [hd]
          clear hd hq HK HK3
          have x0 := HX4.out.c0
          have x1 := HX4.out.c1
          have x2 := HX4.out.c2
          have x3 := HX4.out.c3
          dsimp only at x0 x1 x2 x3
          have hiS : i < S.length := by omega
          obtain ⟨g0, g1, g2, g3⟩ := row_cells HR4.out (List.getElem?_eq_getElem (l := T) (i := i) (by omega))
          generalize T[i] = z at *
          obtain ⟨zo, za, zn, zm⟩ := z
          dsimp only at g0 g1 g2 g3
          have HS2 := Lib.hid hsuf2
          have q0 := HR4.out.frozen (i * 4)
          have q1 := HR4.out.frozen (i * 4 + 1)
          have q2 := HR4.out.frozen (i * 4 + 2)
          have q3 := HR4.out.frozen (i * 4 + 3)
          have hst := ((((HR4.out.stored (i * 4) (.int .i64 yo)).stored (i * 4 + 1) (.int .u64 (ya : Int))).stored (i * 4 + 2) (.int .u64 (yn : Int))).stored (i * 4 + 3) (.int .u16 (ym : Int)))
          rw [flat_set (T := T) (by omega) ⟨yo, ya, yn, ym⟩] at hst
          have HST := Lib.hid hst
          clear hsuf2 hst
          go_wp2_with fail
          have hiT : i < T.length := by omega
          have HF5 : Hid (Fr (rowOf (some ⟨g, 0, none⟩)) w ((((w4.setCell ⟨g, i * 4, none⟩ (.int .i64 yo)).setCell ⟨g, i * 4 + 1, none⟩ (.int .u64 (ya : Int))).setCell ⟨g, i * 4 + 2, none⟩ (.int .u64 (yn : Int))).setCell ⟨g, i * 4 + 3, none⟩ (.int .u16 (ym : Int)))) :=
            (((HF4.out.setCell (p := ⟨g, i * 4, none⟩) (fun _ => ⟨_, rfl, rfl⟩) _).setCell (p := ⟨g, i * 4 + 1, none⟩) (fun _ => ⟨_, rfl, rfl⟩) _).setCell (p := ⟨g, i * 4 + 2, none⟩) (fun _ => ⟨_, rfl, rfl⟩) _).setCell (p := ⟨g, i * 4 + 3, none⟩) (fun _ => ⟨_, rfl, rfl⟩) _
          have HPRE : Hid ((T.set i ⟨yo, ya, yn, ym⟩).take (i + 1) = others op (S.take (j + 1))) := by
            show _ = _
            rw [HE.out, ← hpre.out]
            apply List.ext_getElem?
            intro q
            rw [List.getElem?_take, List.getElem?_append, List.getElem?_set]
            have hl : (T.take i).length = i := by rw [List.length_take]; omega
            rw [hl, List.getElem?_take]
            by_cases h1 : q < i
            · rw [if_pos (by omega), if_neg (by omega), if_pos h1, if_pos h1]
            · by_cases h2 : q = i
              · subst h2
                rw [if_pos (by omega), if_pos rfl, if_pos hiT, if_neg h1]
                simp
              · rw [if_neg (by omega), if_neg h1]
                rw [List.getElem?_eq_none (by simp; omega)]
          have HSUF : Hid ((T.set i ⟨yo, ya, yn, ym⟩).drop (j + 1) = S.drop (j + 1)) := by
            show _ = _
            rw [← HS2.out]
            apply List.ext_getElem?
            intro q
            rw [List.getElem?_drop, List.getElem?_drop, List.getElem?_set, if_neg (by omega)]
          have hlen3 : (T.set i (⟨yo, ya, yn, ym⟩ : Lk)).length = S.length := by rw [List.length_set]; exact hTl
          have HI2 : Hid (i + 1 = (others op (S.take (j + 1))).length) := by
            show _ = _
            rw [HE.out, List.length_append, ← hi.out]; rfl
          go_roundw
          case rel =>
            (repeat apply Exists.intro)
            exact ⟨⟨i + 1, j + 1, _, by omega, by omega, by go_num, by go_num, hlen3, HF5.out, HST.out, HI2.out, HPRE.out, HSUF.out⟩, rfl⟩
          case measure => simp [intOf]; omega
      · have hje : j = S.length := by omega
        have hi' := hi.out
        have hpre' := hpre.out
        rw [hje, List.take_length] at hi' hpre'
        have HI2 := Lib.hid hi'
        have HTK : Hid ((flat T).take (i * 4) = flat (others op S)) := by
          show _ = _
          rw [← hpre']; exact flat_take cells 4 cells_len T i
        have hil : i ≤ S.length := by omega
        have hci : ¬ cap = i := by omega
        have hic : i ≤ cap := by omega
        have hz34 : ∀ w, (zeroValue 34).run Try.prog w = .ok (.agg #[.int .i64 0, .int .u64 0, .int .u64 0, .int .u16 0]) w := fun w => by kernel_rfl
        clear hi hpre hsuf hi' hpre' hc
        go_wp2_with (with_reducible refine wpList_clear_row rfl (.tmp 38) 30 rfl 34 4 (.agg #[.int .i64 0, .int .u64 0, .int .u64 0, .int .u16 0]) Try.underlying30 hz34 rfl ?_ B g S.length cap (flat T) hr.out i (S.length - i) (cap - i) rfl ?_ ?_ ?_)
        · intro v hv
          simp [Value.cells] at hv
          rcases hv with rfl | rfl | rfl | rfl <;> rfl
        · omega
        · omega
        intro w5 hr5 hf5
        rw [HTK.out] at hr5
        have HR5 := Lib.hid hr5
        have HF5 : Hid (Fr (rowOf (some ⟨g, 0, none⟩)) w w5) := hf.out.trans hf5 (fun k _ e => ⟨_, rfl, e⟩)
        clear hr5 hf5 hz34
        go_wp2_with fail
        go_ret
        refine ⟨cap, ?_, ?_, HF5.out⟩
        · rw [← HI2.out]; rfl
        · rw [← HI2.out]; exact HR5.out
end Go.Proofs.Ytgcimkbggnjcdaa
