/- The table's Close and Of, by walks. -/
import Derived.Test.YtgcimkbggnjcdaaW12
namespace Go.Proofs.Ytgcimkbggnjcdaa
open Go.RowKit

theorem of_any (B : Nat) (w : World) (pb : Nat) (S : List Lk) (ao : Option Addr) (cap : Nat) (op : Int) (h : Tb B w pb S ao cap) :
    Calls Try.prog 21 #[.pointer (some ⟨pb, 0, none⟩), .int .i64 op] w fun e w' => e = .returned (.int .i64 (ofN op S : Int)) ∧ Below w.heap.size w w' := by
  have HT := Lib.hid h
  have hS := h.len
  clear h
  go_enter Try.func21, Try.ntmps21
  go_wp2_with fail
  refine (all_any B w pb S ao cap HT.out).mono ?_
  rintro e w1 ⟨ro, rc, rfl, hr, hb⟩
  have HR := Lib.hid hr
  have HB := Lib.hid hb
  clear hr hb
  go_wp2_with fail
  go_loopw [5, 7, 11] (fun s5 _ s wr => ∃ k m : Nat, k ≤ S.length ∧ s = .int .i64 k ∧ s5 = .int .i64 m ∧ m ≤ k ∧ Hid (Below w.heap.size w wr) ∧ Hid (Row w.heap.size wr 34 4 ro S.length rc (flat S)) ∧ Hid (m = ofN op (S.take k))) (fun _ _ s _ => S.length - (intOf s).toNat)
  case atStart => exact ⟨0, 0, Nat.zero_le _, rfl, rfl, Nat.le_refl _, HB.out, HR.out, rfl⟩
  case round =>
    obtain ⟨k, m, hk, rfl, rfl, hmk, hb, hr, hm⟩ := hrel
    by_cases hlt : k < S.length
    · obtain ⟨g, rfl⟩ := HR.out.form (by omega)
      have hk2 : S[k]? = some S[k] := List.getElem?_eq_getElem hlt
      obtain ⟨d0, d1, d2, d3⟩ := row_cells hr.out hk2
      have HK := Lib.hid hk2
      clear hk2
      generalize S[k] = y at *
      obtain ⟨yo, ya, yn, ym⟩ := y
      dsimp only at d0 d1 d2 d3
      have HB2 : Hid (Below w.heap.size w (wr.alloc (.cells #[.int .i64 yo, .int .u64 (ya : Int), .int .u64 (yn : Int), .int .u16 (ym : Int)] 34))) := hb.out.alloc hb.out.size _
      have HR2 : Hid (Row w.heap.size (wr.alloc (.cells #[.int .i64 yo, .int .u64 (ya : Int), .int .u64 (yn : Int), .int .u16 (ym : Int)] 34)) 34 4 (some ⟨g, 0, none⟩) S.length rc (flat S)) := hr.out.fr ((Fr.refl none0 _).alloc _) (fun _ _ h => h)
      by_cases hq : yo = op
      · have HM : Hid (m + 1 = ofN op (S.take (k + 1))) := by
          show _ = _
          rw [(take_yes HK.out hq).2, ← hm.out]
        clear HK hm
        subst hq
        go_wp2_with fail
        go_roundw
        case rel => exact ⟨k + 1, m + 1, by omega, by go_num, by go_num, by omega, HB2.out, HR2.out, HM.out⟩
        case measure => simp [intOf]; omega
      · have HM : Hid (m = ofN op (S.take (k + 1))) := by
          show _ = _
          rw [(take_no HK.out hq).2, ← hm.out]
        have e1 : (yo == op) = false := by simpa using hq
        clear HK hm hq
        go_wp2_with fail
        go_roundw
        case rel => exact ⟨k + 1, m, by omega, by go_num, rfl, by omega, HB2.out, HR2.out, HM.out⟩
        case measure => simp [intOf]; omega
    · have hke : k = S.length := by omega
      have HM : Hid ((m : Int) = (ofN op S : Int)) := by
        have := hm.out
        rw [hke, List.take_length] at this
        show _ = _
        rw [this]
      clear hm hke
      go_wp2_with fail
      go_ret
      exact ⟨congrArg (fun q => Ending.returned (.int .i64 q)) HM.out, hb.out⟩
end Go.Proofs.Ytgcimkbggnjcdaa
