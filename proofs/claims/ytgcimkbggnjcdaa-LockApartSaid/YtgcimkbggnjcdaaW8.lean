/- Contract of the table's Drop, by a walk. -/
import Derived.Test.YtgcimkbggnjcdaaW7
namespace Go.Proofs.Ytgcimkbggnjcdaa
open Go.RowKit

def isIt (op : Int) (a n : Nat) (x : Lk) : Bool := decide (x.op = op ∧ x.a = a ∧ x.n = n)
def dropR (S : List Lk) (op : Int) (a n : Nat) : Int × List Lk := match S.findIdx? (isIt op a n) with | some k => (0, S.eraseIdx k) | none => (7, S)
theorem nat_beq (m n : Nat) : ((m : Int) == (n : Int)) = decide (m = n) := by
  rw [Bool.eq_iff_iff]
  simp only [beq_iff_eq, decide_eq_true_eq]
  omega
theorem erase_flat {S : List Lk} {k : Nat} (hk : k < S.length) : (splice (flat S) (k * 4) (flat (S.drop (k + 1)))).take ((S.length - 1) * 4) = flat (S.eraseIdx k) := by
  have h1 : (flat S).take (k * 4) = flat (S.take k) := flat_take cells 4 cells_len S k
  unfold splice
  rw [h1, ← List.append_assoc]
  have h2 : flat (S.take k) ++ flat (S.drop (k + 1)) = flat (S.eraseIdx k) := by
    unfold flat
    rw [← List.flatMap_append, List.eraseIdx_eq_take_drop_succ]
  rw [h2]
  have h3 : (flat (S.eraseIdx k)).length = (S.length - 1) * 4 := by rw [flat_length, List.length_eraseIdx_of_lt hk]
  rw [← h3]
  exact List.take_left

set_option maxHeartbeats 2000000 in
theorem drop_any (B : Nat) (w : World) (pb : Nat) (S : List Lk) (ao : Option Addr) (cap : Nat) (op : Int) (pa pn : Nat) (h : Tb B w pb S ao cap) :
    Calls Try.prog 16 #[.pointer (some ⟨pb, 0, none⟩), .int .i64 op, .int .u64 (pa : Int), .int .u64 (pn : Int)] w fun e w' => e = .returned (.int .i64 (dropR S op pa pn).1) ∧ Now B pb ao (dropR S op pa pn).2 w w' := by
  obtain ⟨r, hr0⟩ : ∃ r, dropR S op pa pn = r := ⟨_, rfl⟩
  rw [hr0]
  have HR0 := Lib.hid hr0
  have HT := Lib.hid h
  have c0 := h.c0
  have c1 := h.c1
  have hS := h.len
  clear hr0 h
  go_enter Try.func16, Try.ntmps16
  go_wp2_with fail
  refine (off_any w pb c0).mono ?_
  rintro e w1 ⟨rfl, rfl⟩
  go_wp2_with fail
  clear c0 c1
  go_loopw [8, 9, 10, 18] (fun _ _ _ s wr => ∃ k : Nat, k ≤ S.length ∧ s = .int .i64 k ∧ Hid (Below w.heap.size w wr) ∧ Hid (∀ j y, j < k → S[j]? = some y → isIt op pa pn y = false)) (fun _ _ _ s _ => S.length - (intOf s).toNat)
  case atStart => exact ⟨0, Nat.zero_le _, rfl, Below.refl _ _, fun j y hj => absurd hj (Nat.not_lt_zero _)⟩
  case round =>
    obtain ⟨k, hk, rfl, hb, hno⟩ := hrel
    by_cases hlt : k < S.length
    · obtain ⟨g, rfl⟩ := HT.out.row.form (by omega)
      have hk2 : S[k]? = some S[k] := List.getElem?_eq_getElem hlt
      have HTr := Lib.hid (HT.out.below hb.out)
      obtain ⟨d0, d1, d2, d3⟩ := row_cells HTr.out.row hk2
      have HK := Lib.hid hk2
      clear hk2
      generalize S[k] = y at *
      obtain ⟨yo, ya, yn, ym⟩ := y
      dsimp only at d0 d1 d2 d3
      have HB1 : Hid (Below w.heap.size w (wr.alloc (.cells #[.int .i64 yo, .int .u64 (ya : Int), .int .u64 (yn : Int), .int .u16 (ym : Int)] 34))) := hb.out.alloc hb.out.size _
      by_cases hq : yo = op ∧ ya = pa ∧ yn = pn
      · have hit : isIt op pa pn ⟨yo, ya, yn, ym⟩ = true := by unfold isIt; simpa using hq
        have HR1 : Hid (r = (0, S.eraseIdx k)) := by
          show _ = _
          rw [← HR0.out]; unfold dropR; rw [firstAt_hit HK.out hit hno.out]
        obtain ⟨rfl, rfl, rfl⟩ := hq
        clear HK hno hit HR0
        have HT3 := Lib.hid (HT.out.below HB1.out)
        have hcap := HT.out.row.le
        have hcm : cap ≤ 9223372036854775807 := by have := HT.out.row.capmax; unfold maxLen at this; omega
        have hk1 : k ≤ S.length := Nat.le_of_lt hlt
        have hck : ¬ cap = k := by omega
        obtain ⟨k', hk'⟩ : ∃ k', k' = k + 1 := ⟨_, rfl⟩
        have HKK := Lib.hid hk'
        have hk3 : k' ≤ S.length := by omega
        obtain ⟨ad, had, had2⟩ : ∃ ad : Addr, (if cap = k' then some (⟨g, 0, none⟩ : Addr) else some ⟨g, k' * 4, none⟩) = some ad ∧ (k' < S.length → ad = ⟨g, k' * 4, none⟩) := by
          by_cases e : cap = k'
          · exact ⟨⟨g, 0, none⟩, by rw [if_pos e], fun h => by omega⟩
          · exact ⟨⟨g, k' * 4, none⟩, by rw [if_neg e], fun _ => rfl⟩
        have HAD2 := Lib.hid had2
        clear had2
        have hwr : IntKind.i64.wrap ((k : Int) + 1) = (k' : Int) := by rw [IntWalk.i64_in _ (by omega)]; omega
        clear hk'
        have c1 := HT3.out.c1
        go_wp2_with fail
        generalize wr.alloc (.cells #[.int .i64 yo, .int .u64 (ya : Int), .int .u64 (yn : Int), .int .u16 (ym : Int)] 34) = w3 at *
        go_still_tail 13, (by kernel_rfl)
        change wpList _ _ _ _ _ w3.drew
        have hrow : Row B w3.drew 34 4 (some ⟨g, 0, none⟩) S.length cap (flat S) := HT3.out.row.drew
        have HQ : Hid (Blk w3.drew pb 50 #[.bool true, .slice (some ⟨g, 0, none⟩) S.length cap]) := HT3.out.blk.drew
        have HF : Hid (Fr (Tof pb (some ⟨g, 0, none⟩)) w w3.drew) := Fr.of_below (HB1.out.drew)
        have hap : Hid (¬ rowOf (some ⟨g, 0, none⟩) pb) := HT3.out.apart
        clear c1 HB1 HT3 HTr d0 d1 d2 d3
        generalize w3.drew = w4 at *
        have hcsl : (flat (S.drop k')).length = (S.length - k') * 4 := by rw [flat_length, List.length_drop]
        refine wpList_copy_row rfl (.tmp 44) (.tmp 51) 30 rfl 34 4 Try.underlying30 (by kernel_rfl) B g S.length cap (flat S) hrow (k * 4) (S.length - k) (cap - k) ad (S.length - k') (cap - k') rfl rfl (S.length - k') (Nat.min_eq_left (by have := HKK.out; omega)) (flat (S.drop k')) hcsl ?_ ?_ ?_ ?_
        · intro j v hj
          have hjl : j < (S.length - k') * 4 := by rw [← hcsl]; exact (List.getElem?_eq_some_iff.1 hj).1
          rw [HAD2.out (by omega), Addr.add_lit, hrow.cell (by omega)]
          have e1 : flat (S.drop k') = (flat S).drop (k' * 4) := (flat_drop cells 4 cells_len S k').symm
          rw [e1, List.getElem?_drop] at hj
          exact hj
        · have := HKK.out; omega
        · exact flat_one _
        intro w5 hr5 hf5
        have hpg : pb ≠ g := fun e => hap.out ⟨_, rfl, e⟩
        have HQ5 : Hid (Blk w5 pb 50 #[.bool true, .slice (some ⟨g, 0, none⟩) S.length cap]) := HQ.out.fr hf5 hpg
        have HF5 : Hid (Fr (Tof pb (some ⟨g, 0, none⟩)) w w5) := HF.out.trans hf5 (fun i _ he => by subst he; exact Or.inr ⟨_, rfl, rfl⟩)
        obtain ⟨m, hm⟩ : ∃ m, m = S.length - 1 := ⟨_, rfl⟩
        have hcut := hr5.cut (m := m) (by omega) (by simp)
        rw [hm, HKK.out, erase_flat hlt, ← hm] at hcut
        have HR5 := Lib.hid hcut
        have hwr2 : IntKind.i64.wrap ((S.length : Int) - 1) = (m : Int) := by rw [IntWalk.i64_in _ (by omega)]; omega
        have hmc : m ≤ cap := by omega
        have hm64 : m ≤ 64 := by omega
        have hml : m = (S.eraseIdx k).length := by rw [List.length_eraseIdx_of_lt hlt]; exact hm
        have HML := Lib.hid hml
        have d2 : w5.cell? ⟨pb, 1, none⟩ = some (.slice (some ⟨g, 0, none⟩) S.length cap) := HQ5.out.cell 1
        clear hr5 hf5 hrow HQ HF hm hcut hml had hwr hcsl HKK
        go_wp2_with fail
        go_still_tail 14, (by kernel_rfl)
        change wpList _ _ _ _ _ w5.drew
        have HQ6 := Lib.hid HQ5.out.drew
        have HF6 : Hid (Fr (Tof pb (some ⟨g, 0, none⟩)) w w5.drew) := HF5.out.drew
        have HR6 := Lib.hid HR5.out.drew
        have f2 : w5.drew.frozen? ⟨pb, 1, none⟩ = false := HQ6.out.frozen 1
        have d2' : w5.drew.cell? ⟨pb, 1, none⟩ = some (.slice (some ⟨g, 0, none⟩) S.length cap) := HQ6.out.cell 1
        clear d2 HQ5 HF5 HR5
        generalize w5.drew = w6 at *
        have hrow6 := HR6.out
        rw [HML.out] at hrow6
        obtain ⟨hp1, hp2⟩ := put (n := m) HT.out.low HQ6.out HML.out hrow6 (fun x hx => HT.out.ok x (List.eraseIdx_subset hx)) (by rw [← HML.out]; omega)
        have HD : Hid (Ending.returned (.int .i64 0) = Ending.returned (.int .i64 r.1) ∧ Now B pb (some ⟨g, 0, none⟩) r.2 w (w6.setCell ⟨pb, 1, none⟩ (.slice (some ⟨g, 0, none⟩) m cap))) := by
          rw [HR1.out]
          exact ⟨rfl, _, _, hp2, HF6.out.trans hp1 (fun _ _ h => Or.inl h), Sub.refl _ _⟩
        clear hp1 hp2 hrow6 hwr2
        go_wp2_with fail
        go_ret
        exact HD.out
      · have hmiss : isIt op pa pn ⟨yo, ya, yn, ym⟩ = false := by unfold isIt; simpa using hq
        have hno2 : Hid (∀ j y, j < k + 1 → S[j]? = some y → isIt op pa pn y = false) := fun j y hj hj' => by
          rcases Nat.lt_succ_iff_lt_or_eq.1 hj with h | h
          · exact hno.out j y h hj'
          · subst h; rw [HK.out] at hj'; injection hj' with hj'; subst hj'; exact hmiss
        clear HK hno hmiss
        by_cases h1 : yo = op
        · by_cases h2 : ya = pa
          · have h3 : ¬ yn = pn := fun h3 => hq ⟨h1, h2, h3⟩
            have e3 : ((yn : Int) == (pn : Int)) = false := by rw [nat_beq]; simpa using h3
            clear hq h3
            subst h1 h2
            go_wp2_with fail
            go_roundw
            case rel => exact ⟨k + 1, by omega, by go_num, HB1.out, hno2.out⟩
            case measure => simp [intOf]; omega
          · have e2 : ((ya : Int) == (pa : Int)) = false := by rw [nat_beq]; simpa using h2
            clear hq h2
            subst h1
            go_wp2_with fail
            go_roundw
            case rel => exact ⟨k + 1, by omega, by go_num, HB1.out, hno2.out⟩
            case measure => simp [intOf]; omega
        · have e1 : (yo == op) = false := by simpa using h1
          clear hq h1
          go_wp2_with fail
          go_roundw
          case rel => exact ⟨k + 1, by omega, by go_num, HB1.out, hno2.out⟩
          case measure => simp [intOf]; omega
    · have hke : k = S.length := by omega
      have HD : Hid (Ending.returned (.int .i64 7) = Ending.returned (.int .i64 r.1) ∧ Now B pb ao r.2 w wr) := by
        rw [← HR0.out]
        unfold dropR
        rw [firstAt_miss (fun j y hj => hno.out j y (by omega))]
        exact ⟨rfl, _, _, HT.out.below hb.out, Fr.of_below hb.out, Sub.refl _ _⟩
      clear hno
      go_wp2_with fail
      go_ret
      exact HD.out
end Go.Proofs.Ytgcimkbggnjcdaa
