/- The document's Bars, by a walk. -/
import Derived.Test.YtgcimkbggnjcdaaW15
namespace Go.Proofs.Ytgcimkbggnjcdaa
open Go.RowKit

set_option maxHeartbeats 2000000 in
theorem rbars_any (B : Nat) (w : World) (pb : Nat) (S : List Lk) (ao : Option Addr) (cap : Nat) (op : Int) (bw : Bool) (a n : Nat) (h : Rt B w pb S ao cap) (hn : n < 18446744073709551616) :
    Calls Try.prog 20 #[.pointer (some ⟨pb, 0, none⟩), .int .i64 op, .bool bw, .int .u64 (a : Int), .int .u64 (n : Int)] w fun e w' => e = .returned (.bool (barsR S op bw a n)) ∧ Below w.heap.size w w' := by
  obtain ⟨r, hr0⟩ : ∃ r, barsR S op bw a n = r := ⟨_, rfl⟩
  rw [hr0]
  have HT := Lib.hid h
  have hS := h.len
  clear h
  by_cases ha : a ≤ M
  · obtain ⟨m, hm⟩ : ∃ m, min n (M - a) = m := ⟨_, rfl⟩
    have HR0 : Hid (S.any (barB op bw a m) = r) := by
      show _ = _
      rw [← hr0, ← hm]; unfold barsR; rw [if_pos ha]
    obtain ⟨q, hq⟩ : ∃ q, M - a = q := ⟨_, rfl⟩
    rw [hq] at hm
    have hwr : IntKind.u64.wrap (4611686018427387904 - (a : Int)) = (q : Int) := by unfold M at hq ha; rw [IntWalk.u64_in _ (by omega)]; omega
    have ha1 : (a : Int) ≤ 4611686018427387904 := by unfold M at ha; omega
    have ha2 : a ≤ 4611686018427387904 := ha
    have hfit : a + m ≤ M := by omega
    have HN1 : Hid (∀ k (y : Lk), S[k]? = some y → barB op bw a m y = true → true = r) := fun k y hk hy => by
      rw [← HR0.out]; symm; rw [List.any_eq_true]; exact ⟨y, List.mem_of_getElem? hk, hy⟩
    have HN2 : Hid ((∀ j (y : Lk), j < S.length → S[j]? = some y → barB op bw a m y = false) → false = r) := fun hno => by
      rw [← HR0.out]; symm; rw [List.any_eq_false]
      intro y hy
      obtain ⟨j, hj⟩ := List.mem_iff_getElem?.1 hy
      have := hno j y (List.getElem?_eq_some_iff.1 hj).1 hj
      simp [this]
    clear hr0 ha HR0
    have hcase : (q < n ∧ m = q) ∨ (¬ q < n ∧ m = n) := by omega
    clear hm
    rcases hcase with ⟨hqn, hmq⟩ | ⟨hqn, hmq⟩
    all_goals
      subst hmq
      clear hq
      go_enter Try.func20, Try.ntmps20
      go_wp2_with fail
      go_loopw [11, 12] (fun s _ wr => ∃ k : Nat, k ≤ S.length ∧ s = .int .i64 k ∧ Hid (Below w.heap.size w wr) ∧ Hid (∀ j y, j < k → S[j]? = some y → barB op bw a m y = false)) (fun s _ _ => S.length - (intOf s).toNat)
      case atStart => exact ⟨0, Nat.zero_le _, rfl, Below.refl _ _, fun j y hj => absurd hj (Nat.not_lt_zero _)⟩
      case round =>
        obtain ⟨k, hk, rfl, hb, hno⟩ := hrel
        have HTr := Lib.hid (HT.out.below hb.out)
        have c0 := HTr.out.c0
        by_cases hlt : k < S.length
        · obtain ⟨g, rfl⟩ := HT.out.row.form (by omega)
          have hk2 : S[k]? = some S[k] := List.getElem?_eq_getElem hlt
          have hfy : Fit S[k] := HT.out.ok _ (List.getElem_mem hlt)
          obtain ⟨d0, d1, d2, d3⟩ := row_cells HTr.out.row hk2
          have HK := Lib.hid hk2
          clear hk2
          generalize S[k] = y at *
          obtain ⟨yo, ya, yn, ym⟩ := y
          dsimp only at d0 d1 d2 d3
          have HB1 : Hid (Below wr.heap.size wr (wr.alloc (.cells #[.int .i64 yo, .int .u64 (ya : Int), .int .u64 (yn : Int), .int .u16 (ym : Int)] 34))) := (Below.refl _ _).alloc (Nat.le_refl _) _
          have HX1 := Lib.hid (LkAt.new wr yo ya yn ym)
          have hsz : wr.heap.size < (wr.alloc (.cells #[.int .i64 yo, .int .u64 (ya : Int), .int .u64 (yn : Int), .int .u16 (ym : Int)] 34)).heap.size := Blk.lt HX1.out
          have HHIT : Hid (barB op bw a m ⟨yo, ya, yn, ym⟩ = true → true = r) := HN1.out k _ HK.out
          have HNEXT : Hid (barB op bw a m ⟨yo, ya, yn, ym⟩ = false → ∀ j y, j < k + 1 → S[j]? = some y → barB op bw a m y = false) := fun hq j y hj hj' => by
            rcases Nat.lt_succ_iff_lt_or_eq.1 hj with h | h
            · exact hno.out j y h hj'
            · subst h; rw [HK.out] at hj'; injection hj' with hj'; subst hj'; exact hq
          have HM := Lib.hid (show barB op bw a m ⟨yo, ya, yn, ym⟩ = (meetB ya yn a m && (if yo = op then bw && decide (ym = 1) else bw || decide (ym = 2))) from rfl)
          clear HK hno
          go_wp2_with fail
          generalize wr.alloc (.cells #[.int .i64 yo, .int .u64 (ya : Int), .int .u64 (yn : Int), .int .u16 (ym : Int)] 34) = w3 at *
          have x0 := HX1.out.c0
          have x1 := HX1.out.c1
          have x2 := HX1.out.c2
          have x3 := HX1.out.c3
          dsimp only at x0 x1 x2 x3
          go_wp2_with fail
          refine (meet_any w3 a m ya yn hfit hfy).mono ?_
          rw [meetB_comm]
          rintro e w4 ⟨rfl, rfl⟩
          have HX4 := Lib.hid (HX1.out)
          have HB4 : Hid (Below w.heap.size w w3) := hb.out.trans (HB1.out.mono hb.out.size)
          have x0 := HX4.out.c0
          have x3 := HX4.out.c3
          dsimp only at x0 x3
          clear d0 d1 d2 d3 HB1 HX1 x1 x2 hsz
          generalize meetB ya yn a m = z at *
          cases z
          · have HN3 := Lib.hid (HNEXT.out (by rw [HM.out]; rfl))
            clear HNEXT HHIT HM
            go_wp2_with fail
            go_roundw
            case rel => exact ⟨k + 1, by omega, by go_num, HB4.out, HN3.out⟩
            case measure => simp [intOf]; omega
          · by_cases ho : yo = op
            · cases bw
              · have HN3 := Lib.hid (HNEXT.out (by rw [HM.out]; simp [ho]))
                clear HNEXT HHIT HM
                subst ho
                go_wp2_with fail
                go_roundw
                case rel => exact ⟨k + 1, by omega, by go_num, HB4.out, HN3.out⟩
                case measure => simp [intOf]; omega
              · by_cases hm1 : ym = 1
                · have HH := Lib.hid (HHIT.out (by rw [HM.out]; simp [ho, hm1]))
                  clear HNEXT HHIT HM
                  subst ho hm1
                  go_wp2_with fail
                  go_ret
                  exact ⟨congrArg (fun q => Ending.returned (.bool q)) HH.out, HB4.out⟩
                · have HN3 := Lib.hid (HNEXT.out (by rw [HM.out]; simp [ho, hm1]))
                  have e1 : ((ym : Int) == 1) = false := by rw [one_beq]; simpa using hm1
                  clear HNEXT HHIT HM hm1
                  subst ho
                  go_wp2_with fail
                  go_roundw
                  case rel => exact ⟨k + 1, by omega, by go_num, HB4.out, HN3.out⟩
                  case measure => simp [intOf]; omega
            · have e0 : (yo == op) = false := by simpa using ho
              have e00 : (yo != op) = true := by simpa using ho
              cases bw
              · by_cases hm1 : ym = 2
                · have HH := Lib.hid (HHIT.out (by rw [HM.out]; simp [ho, hm1]))
                  clear HNEXT HHIT HM ho
                  subst hm1
                  go_wp2_with fail
                  go_ret
                  exact ⟨congrArg (fun q => Ending.returned (.bool q)) HH.out, HB4.out⟩
                · have HN3 := Lib.hid (HNEXT.out (by rw [HM.out]; simp [ho, hm1]))
                  have e1 : ((ym : Int) == 2) = false := by rw [mode_beq]; simpa using hm1
                  clear HNEXT HHIT HM hm1 ho
                  go_wp2_with fail
                  go_roundw
                  case rel => exact ⟨k + 1, by omega, by go_num, HB4.out, HN3.out⟩
                  case measure => simp [intOf]; omega
              · have HH := Lib.hid (HHIT.out (by rw [HM.out]; simp [ho]))
                clear HNEXT HHIT HM ho
                go_wp2_with fail
                go_ret
                exact ⟨congrArg (fun q => Ending.returned (.bool q)) HH.out, HB4.out⟩
        · have hke : k = S.length := by omega
          have HH := Lib.hid (HN2.out (fun j y hj => hno.out j y (by omega)))
          clear hno hke
          go_wp2_with fail
          go_ret
          exact ⟨congrArg (fun q => Ending.returned (.bool q)) HH.out, hb.out⟩
  · have HH : Hid (false = r) := by
      show _ = _
      rw [← hr0]; unfold barsR; rw [if_neg ha]
    have ha1 : ¬ (a : Int) ≤ 4611686018427387904 := by unfold M at ha; omega
    have ha2 : ¬ a ≤ 4611686018427387904 := ha
    clear hr0 ha
    go_enter Try.func20, Try.ntmps20
    go_wp2_with fail
    go_ret
    exact ⟨congrArg (fun q => Ending.returned (.bool q)) HH.out, Below.refl _ _⟩
end Go.Proofs.Ytgcimkbggnjcdaa
