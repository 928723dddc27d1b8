/- CreditRun, by a walk. -/
import Derived.Test.YteglklcaaicjjaaW25
import Derived.Test.YteglklcaaicjjaaW26
namespace Go.Proofs.Yteglklcaaicjjaa
open Go.RowKit Go.Maps

theorem run_law {S : List Nat} {id k : Nat} {bl : Bool} (h : id ≤ far) (h1 : 1 ≤ k) (h2 : k ≤ 64) (hb : bl = true ↔ ∀ j, j < k → id + j ∈ S) : ((takeE S id k == 0) == bl) = true := by
  have ht := take_all (S := S) h h1 h2
  rw [← hb] at ht
  cases bl
  · have : takeE S id k ≠ 0 := fun e => Bool.noConfusion (ht.1 e)
    simp [this]
  · simp [ht.2 rfl]

set_option maxRecDepth 100000 in
set_option maxHeartbeats 4000000 in
theorem CreditRun_walk (most : Int) (ao : Option Addr) (n c : Nat) (A : Nat → ActV) (id ch : Nat) (w : World) (_ : -9223372036854775808 ≤ most) (_ : most ≤ 9223372036854775807) (hA : Acts w ao n A) (hn : n ≤ 9223372036854775807) (hid : id < 18446744073709551616) (hch : ch < 256) :
    Calls Try.prog 7 #[.int .i64 most, .slice ao n c, .int .u64 (id : Int), .int .u8 (ch : Int)] w fun e w' => e = .returned (.bool true) ∧ Below w.heap.size w w' := by
  by_cases hm : most < 1 ∨ 64 < most
  · go_enter Try.func7, Try.ntmps7
    go_wp2_with fail
    refine (played_bad most ao n c w hm).mono ?_
    rintro e w1 ⟨rfl, rfl⟩
    go_wp2_with fail
    refine (played_bad most ao n c w hm).mono ?_
    rintro e w1 ⟨rfl, rfl⟩
    clear hm
    go_wp2_with (first | (go_at_call 11; refine (works_any _).mono ?_; rintro e w2 ⟨rfl, hb⟩))
    go_ret
    exact ⟨rfl, hb⟩
  · go_enter Try.func7, Try.ntmps7
    go_wp2_with fail
    refine (played_fix most ao n c A w hA hn (by omega) (by omega)).mono ?_
    rintro e w1 ⟨pb, mb, rb, next, S, rfl, hp1, he1, _, hb1⟩
    have HE1 := Lib.hid he1
    have HB1 := Lib.hid hb1
    clear he1 hb1
    go_wp2_with fail
    refine (played_fix most ao n c A w1 (hA.below HB1.out) hn (by omega) (by omega)).mono ?_
    rintro e w2 ⟨pb', mb', rb', next', S', rfl, hp2, he2, _, hb2⟩
    rw [hp1] at hp2
    injection hp2 with e1 e2
    subst e1 e2
    have HE1' := Lib.hid (HE1.out.below hb2)
    have HE2 := Lib.hid he2
    have HB2 : Hid (Below w.heap.size w w2) := HB1.out.trans (hb2.mono HB1.out.size)
    clear he2 hb2 hm hp1 hA
    by_cases hbig : 1099511627776 < id
    · have q1 : (1099511627776 : Int) < (id : Int) := by omega
      go_wp2_with (first | (go_at_call 11; refine (works_any _).mono ?_; rintro e w3 ⟨rfl, hb⟩))
      go_ret
      exact ⟨rfl, HB2.out.trans (hb.mono HB2.out.size)⟩
    · have q1 : ¬ (1099511627776 : Int) < (id : Int) := by omega
      go_wp2_with fail
      obtain ⟨k, hk⟩ : ∃ k : Nat, 1 + (ch : Int) % 64 = (k : Int) := ⟨1 + ch % 64, by omega⟩
      rw [hk]
      have hk1 : 1 ≤ k := by omega
      have hk2 : k ≤ 64 := by omega
      clear hk
      refine (take_any _ pb mb most next S id k HE1'.out.win hid (by omega) (by omega)).mono ?_
      rintro e w3 ⟨rfl, hw3, hf3⟩
      have HW : Hid (Win w3 pb' mb' most next S) := by
        have l1 := HE1.out.win.blk.lt
        have l2 := HE1.out.win.map.lt
        have l3 := HE2.out.lp
        have l4 := HE2.out.lm
        exact HE2.out.win.fr hf3 (fun h => by rcases h with e | e <;> omega) (fun h => by rcases h with e | e <;> omega)
      have HB3 : Hid (Below w.heap.size w w3) := HB2.out.trans (hf3.below HB2.out.size (fun j hj => by
        have l3 := HE1.out.lp
        have l4 := HE1.out.lm
        rcases hj with e | e <;> omega))
      have hlp : w.heap.size ≤ pb' := Nat.le_trans HB1.out.size HE2.out.lp
      have hlm : w.heap.size ≤ mb' := Nat.le_trans HB1.out.size HE2.out.lm
      clear hw3 hf3 HE1 HE1' HE2 HB2 HB1
      obtain ⟨er, her⟩ : ∃ z : Int, takeE S id k = z := ⟨_, rfl⟩
      rw [her]
      have HER := Lib.hid her
      clear her
      go_wp2_with fail
      go_loopw [17, 18] (fun s t wr => ∃ (i : Nat) (bl : Bool), i ≤ k ∧ s = .bool bl ∧ t = .int .i64 i ∧ Hid (bl = true ↔ ∀ j, j < i → id + j ∈ S) ∧ Hid (Win wr pb' mb' most next (cutS S id i)) ∧ Hid (Below w.heap.size w wr)) (fun _ s _ => k - (intOf s).toNat)
      case atStart => exact ⟨0, true, Nat.zero_le _, rfl, rfl, (show Hid _ from ⟨fun _ j hj => absurd hj (Nat.not_lt_zero j), fun _ => rfl⟩), (show Hid _ from by rw [cutS_zero]; exact HW.out), HB3.out⟩
      case round =>
        obtain ⟨i, bl, hi, rfl, rfl, hall, hw, hb⟩ := hrel
        by_cases hlt : i < k
        · obtain ⟨q1', q2'⟩ := cut_one (S := S) (id := id) (i := i) (by unfold far; omega)
          have Q1 := Lib.hid q1'
          have Q2 := Lib.hid q2'
          clear q1' q2'
          by_cases hin : id + i ∈ S
          · have hall2 : Hid (bl = true ↔ ∀ j, j < i + 1 → id + j ∈ S) := by
              refine ⟨fun h j hj => ?_, fun h => hall.out.2 fun j hj => h j (by omega)⟩
              by_cases e : j = i
              · subst e; exact hin
              · exact hall.out.1 h j (by omega)
            have Q3 : Hid (takeE (cutS S id i) (id + i) 1 = 0) := by
              have := Q1.out
              rw [if_pos hin] at this
              exact this
            clear hin Q1 hall
            go_wp2_with fail
            rw [show (id : Int) + (i : Int) = ((id + i : Nat) : Int) from by omega]
            refine (take_any _ pb' mb' most next (cutS S id i) (id + i) 1 hw.out (by omega) (by omega) (by omega)).mono ?_
            rintro e w4 ⟨he, hw4, hf4⟩
            rw [Q2.out] at hw4
            rw [Q3.out] at he
            subst he
            have HW4 := Lib.hid hw4
            have HB4 : Hid (Below w.heap.size w w4) := hb.out.trans (hf4.below hb.out.size (fun j hj => by rcases hj with e | e <;> omega))
            clear hw4 hf4 hw hb
            go_wp2_with fail
            go_roundw
            case rel => exact ⟨i + 1, bl, by omega, rfl, by go_num, hall2, HW4.out, HB4.out⟩
            case measure => simp [intOf]; omega
          · have hall2 : Hid (false = true ↔ ∀ j, j < i + 1 → id + j ∈ S) := by
              exact ⟨fun h => Bool.noConfusion h, fun h => absurd (h i (by omega)) hin⟩
            have Q3 : Hid (takeE (cutS S id i) (id + i) 1 = 17) := by
              have := Q1.out
              rw [if_neg hin] at this
              exact this
            clear hin Q1 hall
            go_wp2_with fail
            rw [show (id : Int) + (i : Int) = ((id + i : Nat) : Int) from by omega]
            refine (take_any _ pb' mb' most next (cutS S id i) (id + i) 1 hw.out (by omega) (by omega) (by omega)).mono ?_
            rintro e w4 ⟨he, hw4, hf4⟩
            rw [Q2.out] at hw4
            rw [Q3.out] at he
            subst he
            have HW4 := Lib.hid hw4
            have HB4 : Hid (Below w.heap.size w w4) := hb.out.trans (hf4.below hb.out.size (fun j hj => by rcases hj with e | e <;> omega))
            clear hw4 hf4 hw hb
            go_wp2_with fail
            go_roundw
            case rel => exact ⟨i + 1, false, by omega, rfl, by go_num, hall2, HW4.out, HB4.out⟩
            case measure => simp [intOf]; omega
        · have hkn : i = k := by omega
          subst hkn
          have hfin := run_law (S := S) (id := id) (by unfold far; omega) hk1 hk2 hall.out
          rw [HER.out] at hfin
          clear hall
          go_wp2_with (first | (go_at_call 11; refine (works_any _).mono ?_; rintro e w4 ⟨rfl, hb4⟩))
          go_ret
          exact ⟨rfl, hb.out.trans (hb4.mono hb.out.size)⟩
end Go.Proofs.Yteglklcaaicjjaa
