/- LockAlone, LockNil, by walks over the contracts. -/
import Derived.Test.YtgcimkbggnjcdaaW21
namespace Go.Proofs.Ytgcimkbggnjcdaa
open Go.RowKit Go.WideShapes

theorem any_step {p : Lk → Bool} {S : List Lk} {k : Nat} {x : Lk} (h : S[k]? = some x) : (S.take (k + 1)).any p = ((S.take k).any p || p x) := by
  rw [List.take_add_one, h]
  simp
theorem bars_low {S : List Lk} {op : Int} {bw : Bool} {a : Nat} (h : a < M) : barsR S op bw a 1 = S.any (barB op bw a 1) := by
  unfold barsR
  rw [if_pos (by omega), Nat.min_eq_left (by omega)]
theorem bars_high {S : List Lk} {op : Int} {bw : Bool} {a : Nat} (h : ¬ a < M) : barsR S op bw a 1 = false := by
  unfold barsR
  split
  · rw [show M - a = 0 by omega, List.any_eq_false]
    intro x _
    unfold barB meetB
    simp
  · rfl

set_option maxHeartbeats 4000000 in
theorem LockAlone_walk (ao : Option Addr) (n c : Nat) (A : Nat → ActV) (op : Int) (a : Nat) (w : World) (hA : Acts w ao n A) (hn : n ≤ 9223372036854775807) (_ : -9223372036854775808 ≤ op) (_ : op ≤ 9223372036854775807) (ha : a < 18446744073709551616) :
    Calls Try.prog 4 #[.slice ao n c, .int .i64 op, .int .u64 (a : Int)] w fun e w' => e = .returned (.bool true) ∧ Below w.heap.size w w' := by
  go_enter Try.func4, Try.ntmps4
  go_wp2_with fail
  refine (played_any w ao n c A hA hn).mono ?_
  rintro e w1 ⟨pb, rb, S, qo, qc, bo, d, rfl, hh, hi, hb⟩
  have HB1 := Lib.hid hb
  have HT1 := Lib.hid hh.t
  have hS := hh.t.len
  have HOK := Lib.hid hh.t.ok
  clear hb hh hA hi
  go_wp2_with fail
  refine (all_any w.heap.size w1 pb S qo qc HT1.out).mono ?_
  rintro e w2 ⟨ro, rc, rfl, hr2, hb2⟩
  have HB2 : Hid (Below w.heap.size w w2) := HB1.out.trans (hb2.mono HB1.out.size)
  have HR2 := Lib.hid hr2
  have HT2 := Lib.hid (HT1.out.below hb2)
  clear hr2 hb2
  go_wp2_with fail
  go_loopw [11, 12, 13, 14] (fun s11 s12 s13 _ wr => ∃ (k : Nat) (rd wt : Bool), k ≤ S.length ∧ s13 = .int .i64 k ∧ s11 = .bool rd ∧ s12 = .bool wt ∧ Hid (Below w2.heap.size w2 wr) ∧ Hid (rd = (S.take k).any (barB op false a 1)) ∧ Hid (wt = (S.take k).any (barB op true a 1))) (fun _ _ s _ _ => S.length - (intOf s).toNat)
  case atStart => exact ⟨0, false, false, Nat.zero_le _, rfl, rfl, rfl, Below.refl _ _, rfl, rfl⟩
  case round =>
    obtain ⟨k, rd, wt, hk, rfl, rfl, rfl, hb, hrd, hwt⟩ := hrel
    by_cases hlt : k < S.length
    · obtain ⟨g, rfl⟩ := HR2.out.form (by omega)
      have hwr : Hid (Row w1.heap.size wr 34 4 (some ⟨g, 0, none⟩) S.length rc (flat S)) := HR2.out.fr (Fr.of_below (T := none0) hb.out) (fun _ _ h => h)
      have hk2 : S[k]? = some S[k] := List.getElem?_eq_getElem hlt
      obtain ⟨d0, d1, d2, d3⟩ := row_cells hwr.out hk2
      have HS1 := Lib.hid (any_step (p := barB op false a 1) hk2)
      have HS2 := Lib.hid (any_step (p := barB op true a 1) hk2)
      have hfx := HOK.out _ (List.getElem_mem hlt)
      rw [← hrd.out] at HS1
      rw [← hwt.out] at HS2
      clear hk2 hrd hwt
      generalize S[k] = x at *
      obtain ⟨xo, xa, xn, xm⟩ := x
      dsimp only at d0 d1 d2 d3
      unfold Fit M at hfx
      dsimp only at hfx
      have HB3 : Hid (Below w2.heap.size w2 (wr.alloc (.cells #[.int .i64 xo, .int .u64 (xa : Int), .int .u64 (xn : Int), .int .u16 (xm : Int)] 34))) := hb.out.alloc hb.out.size _
      -- the part is not in the lock
      have HOUT : Hid (¬ (xa ≤ a ∧ a - xa < xn) → barB op false a 1 ⟨xo, xa, xn, xm⟩ = false ∧ barB op true a 1 ⟨xo, xa, xn, xm⟩ = false) := fun hq => by
        have : meetB xa xn a 1 = false := by unfold meetB; rw [decide_eq_false_iff_not]; omega
        unfold barB
        dsimp only
        rw [this]
        exact ⟨rfl, rfl⟩
      have HIN : Hid ((xa ≤ a ∧ a - xa < xn) → barB op false a 1 ⟨xo, xa, xn, xm⟩ = (if xo = op then false else decide (xm = 2)) ∧ barB op true a 1 ⟨xo, xa, xn, xm⟩ = (if xo = op then decide (xm = 1) else true)) := fun hq => by
        have : meetB xa xn a 1 = true := by unfold meetB; rw [decide_eq_true_eq]; omega
        unfold barB
        dsimp only
        rw [this]
        simp
      by_cases h1 : a < xa
      · obtain ⟨b1, b2⟩ := HOUT.out (by omega)
        rw [b1, Bool.or_false] at HS1
        rw [b2, Bool.or_false] at HS2
        have q1 : (a : Int) < (xa : Int) := by omega
        clear HIN HOUT b1 b2
        go_wp2_with fail
        go_roundw
        case rel => exact ⟨k + 1, rd, wt, by omega, by go_num, rfl, rfl, HB3.out, HS1.out.symm, HS2.out.symm⟩
        case measure => simp [intOf]; omega
      have q1 : ¬ (a : Int) < (xa : Int) := by omega
      obtain ⟨df, hdf⟩ : ∃ df, a - xa = df := ⟨_, rfl⟩
      have v1 : IntKind.u64.wrap ((a : Int) - (xa : Int)) = (df : Int) := by rw [IntWalk.u64_in _ (by omega)]; omega
      by_cases h2 : df < xn
      rotate_left
      · obtain ⟨b1, b2⟩ := HOUT.out (by omega)
        rw [b1, Bool.or_false] at HS1
        rw [b2, Bool.or_false] at HS2
        have q2 : ¬ (df : Int) < (xn : Int) := by omega
        have q3 : (xn : Int) ≤ (df : Int) := by omega
        have q4 : xn ≤ df := by omega
        clear HIN HOUT b1 b2 hdf
        go_wp2_with fail
        go_roundw
        case rel => exact ⟨k + 1, rd, wt, by omega, by go_num, rfl, rfl, HB3.out, HS1.out.symm, HS2.out.symm⟩
        case measure => simp [intOf]; omega
      obtain ⟨b1, b2⟩ := HIN.out (by omega)
      have q2 : ¬ (xn : Int) ≤ (df : Int) := by omega
      have q4 : ¬ xn ≤ df := by omega
      rw [b1] at HS1
      rw [b2] at HS2
      clear HIN HOUT b1 b2 hdf
      by_cases hq : xo = op
      · rw [if_pos hq, Bool.or_false] at HS1
        rw [if_pos hq] at HS2
        by_cases hm : xm = 1
        · have HS3 : Hid (true = (S.take (k + 1)).any (barB op true a 1)) := by show _ = _; rw [HS2.out]; simp [hm]
          clear HS2
          subst hq hm
          go_wp2_with fail
          go_roundw
          case rel => exact ⟨k + 1, rd, true, by omega, by go_num, rfl, rfl, HB3.out, HS1.out.symm, HS3.out⟩
          case measure => simp [intOf]; omega
        · have HS3 : Hid (wt = (S.take (k + 1)).any (barB op true a 1)) := by show _ = _; rw [HS2.out]; simp [hm]
          have z1 : ((xm : Int) == 1) = false := by rw [one_beq]; simpa using hm
          clear HS2 hm
          subst hq
          go_wp2_with fail
          go_roundw
          case rel => exact ⟨k + 1, rd, wt, by omega, by go_num, rfl, rfl, HB3.out, HS1.out.symm, HS3.out⟩
          case measure => simp [intOf]; omega
      · rw [if_neg hq] at HS1 HS2
        rw [Bool.or_true] at HS2
        have e0 : (xo != op) = true := by simpa using hq
        clear hq
        cases rd
        · rw [Bool.false_or] at HS1
          have z2 := mode_beq xm
          go_wp2_with fail
          go_roundw
          case rel => exact ⟨k + 1, decide (xm = 2), true, by omega, by go_num, rfl, rfl, HB3.out, HS1.out.symm, HS2.out.symm⟩
          case measure => simp [intOf]; omega
        · rw [Bool.true_or] at HS1
          go_wp2_with fail
          go_roundw
          case rel => exact ⟨k + 1, true, true, by omega, by go_num, rfl, rfl, HB3.out, HS1.out.symm, HS2.out.symm⟩
          case measure => simp [intOf]; omega
    · have hke : k = S.length := by omega
      have hrd' := hrd.out
      have hwt' := hwt.out
      rw [hke, List.take_length] at hrd' hwt'
      have HT3 := Lib.hid (HT2.out.below hb.out)
      have HB3 : Hid (Below w.heap.size w wr) := HB2.out.trans (hb.out.mono HB2.out.size)
      by_cases hM : a < M
      · have z1 := bars_low (S := S) (op := op) (bw := false) hM
        have z2 := bars_low (S := S) (op := op) (bw := true) hM
        rw [← hrd'] at z1
        rw [← hwt'] at z2
        have HZ1 := Lib.hid z1
        have HZ2 := Lib.hid z2
        have q1 : ¬ (4611686018427387904 : Int) ≤ (a : Int) := by unfold M at hM; omega
        have q2 : ¬ 4611686018427387904 ≤ a := by unfold M at hM; omega
        clear hrd hwt hrd' hwt' z1 z2 hM hke
        go_wp2_with fail
        refine (bars_any w.heap.size wr pb S qo qc op false a 1 HT3.out (by decide)).mono ?_
        rw [HZ1.out]
        rintro e w4 ⟨rfl, hb4⟩
        have HB4 : Hid (Below w.heap.size w w4) := HB3.out.trans (hb4.mono HB3.out.size)
        have HT4 := Lib.hid (HT3.out.below hb4)
        clear hb4
        go_wp2_with fail
        refine (bars_any w.heap.size w4 pb S qo qc op true a 1 HT4.out (by decide)).mono ?_
        rw [HZ2.out]
        rintro e w5 ⟨rfl, hb5⟩
        have HB5 : Hid (Below w.heap.size w w5) := HB4.out.trans (hb5.mono HB4.out.size)
        clear hb5
        go_wp2_with fail
        refine (works_any _).mono ?_
        rintro e w6 ⟨rfl, hb6⟩
        go_wp2_with fail
        go_ret
        exact ⟨rfl, HB5.out.trans (hb6.mono HB5.out.size)⟩
      · have HZ1 := Lib.hid (bars_high (S := S) (op := op) (bw := false) hM)
        have HZ2 := Lib.hid (bars_high (S := S) (op := op) (bw := true) hM)
        have q1 : (4611686018427387904 : Int) ≤ (a : Int) := by unfold M at hM; omega
        have q2 : 4611686018427387904 ≤ a := by unfold M at hM; omega
        clear hrd hwt hrd' hwt' hM hke
        go_wp2_with fail
        refine (bars_any w.heap.size wr pb S qo qc op false a 1 HT3.out (by decide)).mono ?_
        rw [HZ1.out]
        rintro e w4 ⟨rfl, hb4⟩
        have HB4 : Hid (Below w.heap.size w w4) := HB3.out.trans (hb4.mono HB3.out.size)
        have HT4 := Lib.hid (HT3.out.below hb4)
        clear hb4
        go_wp2_with fail
        refine (bars_any w.heap.size w4 pb S qo qc op true a 1 HT4.out (by decide)).mono ?_
        rw [HZ2.out]
        rintro e w5 ⟨rfl, hb5⟩
        have HB5 : Hid (Below w.heap.size w w5) := HB4.out.trans (hb5.mono HB4.out.size)
        clear hb5
        go_wp2_with fail
        refine (works_any _).mono ?_
        rintro e w6 ⟨rfl, hb6⟩
        go_wp2_with fail
        go_ret
        exact ⟨rfl, HB5.out.trans (hb6.mono HB5.out.size)⟩
end Go.Proofs.Ytgcimkbggnjcdaa
