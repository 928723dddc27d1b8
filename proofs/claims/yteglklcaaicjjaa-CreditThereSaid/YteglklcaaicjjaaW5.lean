/- The law CreditBounds, by a walk over the contracts. -/
import Derived.Test.YteglklcaaicjjaaW4
namespace Go.Proofs.Yteglklcaaicjjaa
open Go.RowKit Go.Maps

theorem quiet_left {P : Program} {f : FuncId} {args : Array Value} {w : World} {n : Nat} {v : Value}
    (h : Calls P f args (w.drewN n) fun e w' => e = .returned v ∧ w.drewN n = w') : Calls P f args (w.drewN n) fun e w'' => e = .returned v ∧ ∃ m, w'' = w.drewN m :=
  h.mono fun _ _ ⟨he, hm⟩ => ⟨he, n, hm.symm⟩
theorem Win.drewN {w : World} {pb mb : Nat} {most : Int} {next : Nat} {S : List Nat} (h : Win w pb mb most next S) (n : Nat) : Win (w.drewN n) pb mb most next S := ⟨h.blk, h.map, h.asc, h.lt, h.m1, h.m2, h.len⟩

theorem takeS_len {S : List Nat} (hS : S.Pairwise (· < ·)) (id n : Nat) (h : ∀ k, k < n → id + k ∈ S) : (cutS S id n).length + n = S.length := by
  induction n with
  | zero => rw [cutS_zero]; omega
  | succ n ih =>
    have h1 := ih (fun k hk => h k (by omega))
    have hin : id + n ∈ cutS S id n := cutS_mem.2 ⟨h n (by omega), by omega⟩
    have h2 := length_ne_filter (cutS S id n) (cutS_asc hS id n) hin
    have h3 := cutS_step S id n
    unfold dropK at h3
    rw [h3] at h2
    omega
/-- What Take that went well leaves. -/
theorem take_good {S : List Nat} (hS : S.Pairwise (· < ·)) {id : Nat} {c : Int} (h : takeE S id c = 0) : 1 ≤ c ∧ c ≤ 64 ∧ id ≤ 4611686018427387904 ∧ (∀ k, k < c.toNat → id + k ∈ S) ∧ takeS S id c = cutS S id c.toNat ∧ ((takeS S id c).length : Int) = S.length - c := by
  have h0 := h
  unfold takeE at h
  split at h
  · omega
  · split at h
    · omega
    · split at h
      · rename_i h1 h2 h3
        have hall := (allIn_iff S id c.toNat).1 h3
        have he : takeS S id c = cutS S id c.toNat := by unfold takeS; rw [if_pos h0]
        have := takeS_len hS id c.toNat hall
        unfold far at h2
        exact ⟨by omega, by omega, by omega, hall, he, by rw [he]; omega⟩
      · omega

set_option maxRecDepth 100000 in
set_option maxHeartbeats 4000000 in
theorem CreditBounds_walk (most : Int) (ao : Option Addr) (n c : Nat) (A : Nat → ActV) (w : World) (_ : -9223372036854775808 ≤ most) (_ : most ≤ 9223372036854775807) (hA : Acts w ao n A) (_ : n ≤ 9223372036854775807) :
    Calls Try.prog 3 #[.int .i64 most, .slice ao n c] w fun e w' => e = .returned (.bool true) ∧ Below w.heap.size w w' := by
  by_cases hm : most < 1 ∨ 64 < most
  · have hd : (decide (most < 1) || decide (64 < most)) = true := by simpa using hm
    go_enter Try.func3, Try.ntmps3
    go_wp2_with fail
    refine (new_bad most _ hm).mono ?_
    rintro e w1 ⟨rfl, rfl⟩
    have HM := Lib.hid hm
    clear hm
    by_cases h1 : most < 1
    all_goals
      go_wp2_with (first | (go_at_call 11; refine (works_any _).mono ?_; rintro e w2 ⟨rfl, hb⟩))
      go_ret
      exact ⟨rfl, hb⟩
  · go_enter Try.func3, Try.ntmps3
    go_wp2_with fail
    refine (new_good most _ (by omega) (by omega)).mono ?_
    rintro e w1 ⟨pb, mb, rfl, hw1, hpb, hmb, hb1⟩
    clear hm
    go_wp2_with fail
    go_loopw [4, 7, 8, 9] (fun s4 s7 _ _ wr => ∃ (k next : Nat) (S : List Nat), k ≤ n ∧ s4 = .bool false ∧ s7 = .int .i64 k ∧ k ≤ 100 ∧ next ≤ 1 + 64 * k ∧ Hid (Win wr pb mb most next S) ∧ Hid (Below w.heap.size w wr)) (fun _ s7 _ _ _ => n - (intOf s7).toNat)
    case atStart => exact ⟨0, 1, [0], Nat.zero_le _, rfl, rfl, by omega, by omega, hw1, hb1⟩
    case round =>
      obtain ⟨k, next, S, hk, rfl, rfl, hk1, hnext, hw, hb⟩ := hrel
      by_cases hlt : k < n ∧ k < 100
      · obtain ⟨hl1, hl2⟩ := hlt
        obtain ⟨b, o, rfl, hbl, ha0, hok⟩ := hA k hl1
        have ha := ha0.below hb.out hbl
        have j3 : Hid (w.cell? ⟨b, o + k * 4 + 3, none⟩ = some (.int .i64 (A k).charge)) := ha0.k3
        have k0 := ha.k0
        have k1 := ha.k1
        have k2 := ha.k2
        have k3 := ha.k3
        obtain ⟨o1, o2, o3, o4, o5⟩ := hok
        clear ha ha0
        generalize A k = q at *
        obtain ⟨g, wt, id, ch⟩ := q
        dsimp only at k0 k1 k2 k3 o1 o2 o3 o4 o5
        have c2 := hw.out.c2
        cases g
        · -- Take
          go_wp2_with (first | (go_at_call 12; refine (has_any _ pb mb most next S hw.out).mono ?_; rintro e w2 ⟨rfl, rfl⟩))
          go_still_tail 11, (by kernel_rfl)
          change wpList _ _ _ _ _ wr.drew
          have hw' : Hid (Win wr.drew pb mb most next S) := hw.out.drew
          have hb' : Hid (Below w.heap.size w wr.drew) := hb.out.drew
          clear hw hb k0 k1 k2 k3 c2
          generalize wr.drew = wd at *
          go_wp2_with fail
          refine (take_any _ pb mb most next S id ch hw'.out o3 o4 o5).mono ?_
          rintro e w2 ⟨rfl, hw2, hf2⟩
          have hb2 : Hid (Below w.heap.size w w2) := hb'.out.trans ((hf2.below hb'.out.size (fun j hj => by rcases hj with rfl | rfl <;> assumption)))
          have HW2 := Lib.hid hw2
          have hm2 := hw2.len
          by_cases hE : takeE S id ch = 0
          · obtain ⟨q1, q2, q3, q4, q5, q6⟩ := take_good hw'.out.asc hE
            rw [hE]
            have HQ6 := Lib.hid q6
            have t1 : (((takeS S id ch).length : Int) != (S.length : Int) - ch) = false := by simp [q6]
            have t3 : ((takeS S id ch).length : Int) ≤ most := hm2
            have t4 : (S.length : Int) ≤ 64 := Int.le_trans hw'.out.len hw'.out.m2
            clear q4 q5 q6 hm2 hw' hb' hE
            generalize takeS S id ch = S2 at *
            go_wp2_with fail
            have k3 : w2.cell? ⟨b, o + k * 4 + 3, none⟩ = some (.int .i64 ch) := (hb2.out.cell (p := ⟨b, o + k * 4 + 3, none⟩) hbl).trans j3.out
            refine wp_region_quiet_lit (by kernel_rfl) (by kernel_rfl) ?_
            repeat (go_big_quiet_step ((go_at_call 12; exact quiet_left (has_any _ pb mb most next S2 (Win.drewN HW2.out _)))))
            refine wpQuiet_nil ?_
            intro w3 hw3
            obtain ⟨nq, rfl⟩ := hw3
            go_wp2_with (first | (go_at_call 12; refine (has_any _ pb mb most next S2 (Win.drewN HW2.out _)).mono ?_; rintro e w5 ⟨rfl, rfl⟩))
            go_roundw
            case rel => exact ⟨k + 1, next, S2, by omega, rfl, by go_num, by omega, by omega, Win.drewN HW2.out _, below_drewN hb2.out _⟩
            case measure => simp [intOf]; omega
          · have t0 : (takeE S id ch == 0) = false := by simpa using hE
            have e2 : takeS S id ch = S := by unfold takeS; rw [if_neg hE]
            rw [e2] at HW2
            have t1 : (S.length : Int) ≤ most := HW2.out.len
            clear hE e2 hm2 hw' hb'
            generalize takeE S id ch = ee at *
            go_wp2_with (first | (go_at_call 12; refine (has_any _ pb mb most next S HW2.out).mono ?_; rintro e w5 ⟨rfl, rfl⟩))
            go_roundw
            case rel => exact ⟨k + 1, next, S, by omega, rfl, by go_num, by omega, by omega, HW2.out, hb2⟩
            case measure => simp [intOf]; omega
        · -- Give
          go_wp2_with (first | (go_at_call 12; refine (has_any _ pb mb most next S hw.out).mono ?_; rintro e w2 ⟨rfl, rfl⟩))
          refine (give_any _ pb mb most next S wt hw.out (by omega) o1 o2).mono ?_
          rintro e w2 ⟨rfl, hw2, hf2⟩
          obtain ⟨g1, g2, g3⟩ := giveN_in wt hw.out.m1 hw.out.len
          have hm2 := hw.out.m2
          have hm1 := hw.out.m1
          have hln := hw.out.len
          have hb2 : Hid (Below w.heap.size w w2) := hb.out.trans (hf2.below hb.out.size (fun j hj => by rcases hj with rfl | rfl <;> assumption))
          have hlen2 : ((S ++ run next (giveN most S.length wt).toNat).length : Int) = S.length + giveN most S.length wt := by
            rw [List.length_append, run_len]; omega
          have HW2 := Lib.hid hw2
          clear hw2 hf2 hb k0 k1 k2 k3 c2
          generalize S ++ run next (giveN most S.length wt).toNat = S2 at *
          generalize giveN most S.length wt = gn at *
          obtain ⟨next2, hn2, HW3⟩ : ∃ next2 : Nat, next2 ≤ 1 + 64 * (k + 1) ∧ Hid (Win w2 pb mb most next2 S2) := ⟨next + gn.toNat, by omega, HW2⟩
          have t1 : ((S2.length : Int) != (S.length : Int) + gn) = false := by simp [hlen2]
          have t2 : (1 : Int) ≤ (S2.length : Int) := by
            by_cases hz : S.length = 0
            · have := g3 hz; omega
            · omega
          have t3 : (S2.length : Int) ≤ most := by omega
          clear hlen2 g3 HW2
          go_wp2_with (first | (go_at_call 12; refine (has_any _ pb mb most next2 S2 HW3.out).mono ?_; rintro e w5 ⟨rfl, rfl⟩))
          go_roundw
          case rel => exact ⟨k + 1, next2, S2, by omega, rfl, by go_num, by omega, hn2, HW3.out, hb2⟩
          case measure => simp [intOf]; omega
      · by_cases hend : k < n
        all_goals
          have hend2 : k < n → ¬ k < 100 := by omega
          clear hlt
          first | (have hend3 := hend2 hend; clear hend2) | clear hend2
          go_wp2_with (first | (go_at_call 11; refine (works_any _).mono ?_; rintro e w2 ⟨rfl, hb2⟩))
          go_ret
          exact ⟨rfl, hb.out.trans (hb2.mono hb.out.size)⟩
end Go.Proofs.Yteglklcaaicjjaa
