/- Contract of the document's Drop, by a walk. -/
import Derived.Test.YtgcimkbggnjcdaaW8
namespace Go.Proofs.Ytgcimkbggnjcdaa
open Go.RowKit

set_option maxHeartbeats 2000000 in
theorem rdrop_any (B : Nat) (w : World) (pb : Nat) (S : List Lk) (ao : Option Addr) (cap : Nat) (op : Int) (pa pn : Nat) (h : Rt B w pb S ao cap) (hB : B ≤ w.heap.size) :
    Calls Try.prog 36 #[.pointer (some ⟨pb, 0, none⟩), .int .i64 op, .int .u64 (pa : Int), .int .u64 (pn : Int)] w fun e w' => e = .returned (.int .i64 (dropR S op pa pn).1) ∧ RNow B pb ao (dropR S op pa pn).2 w w' := by
  obtain ⟨r, hr0⟩ : ∃ r, dropR S op pa pn = r := ⟨_, rfl⟩
  rw [hr0]
  have HR0 := Lib.hid hr0
  have HT := Lib.hid h
  have c0 := h.c0
  have hS := h.len
  clear hr0 h
  go_enter Try.func36, Try.ntmps36
  go_wp2_with fail
  go_loopw [8, 9, 10] (fun _ s _ wr => ∃ k : Nat, k ≤ S.length ∧ s = .int .i64 k ∧ w = wr ∧ Hid (∀ j y, j < k → S[j]? = some y → isIt op pa pn y = false)) (fun _ s _ _ => S.length - (intOf s).toNat)
  case atStart => exact ⟨0, Nat.zero_le _, rfl, rfl, fun j y hj => absurd hj (Nat.not_lt_zero _)⟩
  case round =>
    obtain ⟨k, hk, rfl, rfl, hno⟩ := hrel
    by_cases hlt : k < S.length
    · obtain ⟨g, rfl⟩ := HT.out.row.form (by omega)
      have hk2 : S[k]? = some S[k] := List.getElem?_eq_getElem hlt
      obtain ⟨d0, d1, d2, d3⟩ := row_cells HT.out.row hk2
      have HK := Lib.hid hk2
      clear hk2
      generalize S[k] = y at *
      obtain ⟨yo, ya, yn, ym⟩ := y
      dsimp only at d0 d1 d2 d3
      by_cases hq : yo = op ∧ ya = pa ∧ yn = pn
      · have hit : isIt op pa pn ⟨yo, ya, yn, ym⟩ = true := by unfold isIt; simpa using hq
        have HR1 : Hid (r = (0, S.eraseIdx k)) := by
          show _ = _
          rw [← HR0.out]; unfold dropR; rw [firstAt_hit HK.out hit hno.out]
        obtain ⟨rfl, rfl, rfl⟩ := hq
        clear HK hno hit HR0
        have hcap := HT.out.row.le
        have hcm : cap ≤ 9223372036854775807 := by have := HT.out.row.capmax; unfold maxLen at this; omega
        have hk1 : k ≤ S.length := Nat.le_of_lt hlt
        have hkc : k ≤ cap := by omega
        obtain ⟨k', hk'⟩ : ∃ k', k' = k + 1 := ⟨_, rfl⟩
        have HKK := Lib.hid hk'
        have hk3 : k' ≤ S.length := by omega
        obtain ⟨b2, o2, had, had2⟩ : ∃ (b2 o2 : Nat), (if cap = k' then some (⟨g, 0, none⟩ : Addr) else some ⟨g, k' * 4, none⟩) = some ⟨b2, o2, none⟩ ∧ (k' < S.length → b2 = g ∧ o2 = k' * 4) := by
          by_cases e : cap = k'
          · exact ⟨g, 0, by rw [if_pos e], fun h => by omega⟩
          · exact ⟨g, k' * 4, by rw [if_neg e], fun _ => ⟨rfl, rfl⟩⟩
        have HAD2 := Lib.hid had2
        clear had2
        have hwr : IntKind.i64.wrap ((k : Int) + 1) = (k' : Int) := by rw [IntWalk.i64_in _ (by omega)]; omega
        clear hk'
        obtain ⟨i0, gi, gz0, gz1, gz2⟩ := info_parts inf34
        have hrow := Lib.hid HT.out.row
        have hl1 : (flat (S.take k)).length = k * 4 := by rw [flat_length, List.length_take]; omega
        go_wp2_with (at_builtin; refine wpList_append_row rfl (.tmp 54) (.tmp 60) 30 rfl 34 i0 _ 4 32 Try.underlying30 gi gz0 gz1 gz2 rfl (by decide) (by decide) w.heap.size none 0 0 [] rfl (Row.nil _ _ _ _) g 0 k cap (flat (S.take k)) rfl hl1 ?_ ?_ ?_ ?_ ?_)
        · intro j u hj
          have e1 : flat (S.take k) = (flat S).take (k * 4) := (flat_take cells 4 cells_len S k).symm
          have hjl : j < k * 4 := by rw [← hl1]; exact (List.getElem?_eq_some_iff.1 hj).1
          rw [Nat.zero_add, hrow.out.cell (by omega), ← hj, e1, List.getElem?_take, if_pos hjl]
        · exact flat_one _
        · omega
        · first | omega | (simp; done) | (simp; omega)
        intro ro rc w4 hr4 hf4 _
        have hr4' : Row w.heap.size w4 34 4 ro k rc (flat (S.take k)) := by simpa using hr4
        have HR4 := Lib.hid hr4'
        have hf4' : Fr none0 w w4 := hf4.mono (fun _ _ h => by obtain ⟨_, h, _⟩ := h; cases h)
        have HT4 : Hid (Rt B w4 pb S (some ⟨g, 0, none⟩) cap) := HT.out.below (hf4'.below (Nat.le_refl _) (fun _ h => h.elim))
        have HF4 := Lib.hid hf4'
        have hrow4 := Lib.hid HT4.out.row
        clear c0
        have c0 := HT4.out.c0
        have hb4 := HF4.out.size
        have hcsl : (flat (S.drop k')).length = (S.length - k') * 4 := by rw [flat_length, List.length_drop]
        clear hr4 hr4' hf4 hf4' d0 d1 d2 d3
        go_wp2_with (at_builtin; refine wpList_append_row rfl (.tmp 63) (.tmp 70) 30 rfl 34 i0 _ 4 32 Try.underlying30 gi gz0 gz1 gz2 rfl (by decide) (by decide) w.heap.size ro k rc (flat (S.take k)) rfl HR4.out b2 o2 (S.length - k') (cap - k') (flat (S.drop k')) rfl hcsl ?_ ?_ ?_ ?_ ?_)
        · intro j u hj
          have hjl : j < (S.length - k') * 4 := by rw [← hcsl]; exact (List.getElem?_eq_some_iff.1 hj).1
          obtain ⟨e1, e2⟩ := HAD2.out (by omega)
          have e3 : flat (S.drop k') = (flat S).drop (k' * 4) := (flat_drop cells 4 cells_len S k').symm
          rw [e3, List.getElem?_drop] at hj
          rw [e1, e2, hrow4.out.cell (by omega), hj]
        · exact flat_one _
        · omega
        · first | omega | (simp; done) | (simp; omega)
        intro ro' rc' w5 hr5 hf5 _
        have hwo : flat (S.take k) ++ flat (S.drop k') = flat (S.eraseIdx k) := by
          unfold flat
          rw [← List.flatMap_append, HKK.out, List.eraseIdx_eq_take_drop_succ]
        obtain ⟨m, hm⟩ : ∃ m, k + (S.length - k') = m := ⟨_, rfl⟩
        have hml : m = (S.eraseIdx k).length := by rw [List.length_eraseIdx_of_lt hlt]; have := HKK.out; omega
        rw [hwo, hm] at hr5
        have hrow5 := hr5.base hB
        rw [hml] at hrow5
        have hap5 : Blk w5 pb 44 #[.slice (some ⟨g, 0, none⟩) S.length cap] := HT4.out.blk.fr hf5 (fun hk => by
          have h1 := (HR4.out.tag pb HT4.out.blk.lt hk).1
          have h2 := HT.out.blk.lt
          omega)
        obtain ⟨hp1, hp2⟩ := rput (n := m) HT.out.low hap5 hml hrow5 (fun x hx => HT.out.ok x (List.eraseIdx_subset hx)) (by have h9 := List.length_eraseIdx_of_lt hlt; omega)
        have HF5 : Hid (Fr none0 w w5) := HF4.out.rowed HR4.out (Nat.le_refl _) hf5
        have hsub : Sub ro' (some ⟨g, 0, none⟩) w.heap.size := fun i hi => Or.inr (by
          exact (hr5.tag i (by obtain ⟨ad, rfl, rfl⟩ := hi; exact hr5.lt) hi).1)
        have HD : Hid (Ending.returned (.int .i64 0) = Ending.returned (.int .i64 r.1) ∧ RNow B pb (some ⟨g, 0, none⟩) r.2 w (w5.setCell ⟨pb, 0, none⟩ (.slice ro' m rc'))) := by
          rw [HR1.out]
          exact ⟨rfl, _, _, hp2, (HF5.out.mono (fun _ _ h => h.elim)).trans hp1 (fun _ _ h => h), hsub⟩
        have f2 := hap5.frozen 0
        have d2' : w5.cell? ⟨pb, 0, none⟩ = some (.slice (some ⟨g, 0, none⟩) S.length cap) := hap5.cell 0
        clear hp1 hp2 hrow5 hwr hwo hml hr5 hf5 hap5 had c0 hsub
        go_wp2_with fail
        go_ret
        exact HD.out
      · have hmiss : isIt op pa pn ⟨yo, ya, yn, ym⟩ = false := by unfold isIt; simpa using hq
        have hno2 : Hid (∀ j y, j < k + 1 → S[j]? = some y → isIt op pa pn y = false) := fun j y hj hj' => by
          rcases Nat.lt_succ_iff_lt_or_eq.1 hj with h | h
          · exact hno.out j y h hj'
          · subst h; rw [HK.out] at hj'; injection hj' with hj'; subst hj'; exact hmiss
        clear HK hno hmiss
        by_cases h1 : yo = op
        · by_cases h2 : ya = pa
          · have h3 : ¬ yn = pn := fun h3 => hq ⟨h1, h2, h3⟩
            have e3 : ((yn : Int) == (pn : Int)) = false := by rw [nat_beq]; simpa using h3
            clear hq h3
            subst h1 h2
            go_wp2_with fail
            go_roundw
            case rel => exact ⟨k + 1, by omega, by go_num, (by first | rfl | trivial), hno2.out⟩
            case measure => simp [intOf]; omega
          · have e2 : ((ya : Int) == (pa : Int)) = false := by rw [nat_beq]; simpa using h2
            clear hq h2
            subst h1
            go_wp2_with fail
            go_roundw
            case rel => exact ⟨k + 1, by omega, by go_num, (by first | rfl | trivial), hno2.out⟩
            case measure => simp [intOf]; omega
        · have e1 : (yo == op) = false := by simpa using h1
          clear hq h1
          go_wp2_with fail
          go_roundw
          case rel => exact ⟨k + 1, by omega, by go_num, (by first | rfl | trivial), hno2.out⟩
          case measure => simp [intOf]; omega
    · have hke : k = S.length := by omega
      have HD : Hid (Ending.returned (.int .i64 7) = Ending.returned (.int .i64 r.1) ∧ RNow B pb ao r.2 w w) := by
        rw [← HR0.out]
        unfold dropR
        rw [firstAt_miss (fun j y hj => hno.out j y (by omega))]
        exact ⟨rfl, _, _, HT.out, Fr.refl _ _, Sub.refl _ _⟩
      clear hno
      go_wp2_with fail
      go_ret
      exact HD.out
end Go.Proofs.Ytgcimkbggnjcdaa
