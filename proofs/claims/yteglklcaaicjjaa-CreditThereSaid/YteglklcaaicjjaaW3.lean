/- The contract of Give, by a walk. -/
import Derived.Test.YteglklcaaicjjaaW2
namespace Go.Proofs.Yteglklcaaicjjaa
open Go.RowKit Go.Maps

/-- How many numbers Give gives. -/
def giveN (most : Int) (len : Nat) (want : Int) : Int := if len = 0 then max (min (max want 0) (most - len)) 1 else min (max want 0) (most - len)
/-- The numbers from next on, as many as n. -/
def run (next n : Nat) : List Nat := (List.range n).map (next + ·)
theorem run_succ (next n : Nat) : run next (n + 1) = run next n ++ [next + n] := by unfold run; rw [List.range_succ, List.map_append]; rfl
theorem run_mem {next n x : Nat} : x ∈ run next n ↔ next ≤ x ∧ x < next + n := by
  unfold run
  rw [List.mem_map]
  constructor
  · rintro ⟨k, hk, rfl⟩
    have := List.mem_range.1 hk
    omega
  · intro h
    exact ⟨x - next, List.mem_range.2 (by omega), by omega⟩
theorem run_len (next n : Nat) : (run next n).length = n := by simp [run]
theorem run_asc (next n : Nat) : (run next n).Pairwise (· < ·) := by
  unfold run
  rw [List.pairwise_map]
  exact (List.pairwise_lt_range (n := n)).imp (fun h => by omega)
theorem app_asc {S : List Nat} (h : S.Pairwise (· < ·)) {next : Nat} (hl : ∀ k ∈ S, k < next) (n : Nat) : (S ++ run next n).Pairwise (· < ·) :=
  List.pairwise_append.2 ⟨h, run_asc next n, fun a ha b hb => by have := hl a ha; have := (run_mem.1 hb).1; omega⟩

theorem giveN_in {most : Int} {len : Nat} (want : Int) (h1 : 1 ≤ most) (h2 : (len : Int) ≤ most) : 0 ≤ giveN most len want ∧ giveN most len want + len ≤ most ∧ (len = 0 → 1 ≤ giveN most len want) := by
  unfold giveN; split <;> omega

def GivePost (pb mb : Nat) (most : Int) (next : Nat) (S : List Nat) (want : Int) (w : World) (e : Ending) (w' : World) : Prop :=
  e = .returned (.int .i64 (giveN most S.length want)) ∧ Win w' pb mb most (next + (giveN most S.length want).toNat) (S ++ run next (giveN most S.length want).toNat) ∧ Fr (Of pb mb) w w'

set_option maxHeartbeats 1000000 in
theorem give_any (w : World) (pb mb : Nat) (most : Int) (next : Nat) (S : List Nat) (want : Int) (h : Win w pb mb most next S) (hnx : next ≤ 4611686018427387904) (hc0 : -9223372036854775808 ≤ want) (hc1 : want ≤ 9223372036854775807) :
    Calls Try.prog 13 #[.pointer (some ⟨pb, 0, none⟩), .int .i64 want] w (GivePost pb mb most next S want w) := by
  have c2 := h.c2
  have c0 := h.c0
  have hm1 := h.m1
  have hm2 := h.m2
  have hln := h.len
  obtain ⟨m0, e0⟩ : ∃ m0, (if want < 0 then 0 else want) = m0 := ⟨_, rfl⟩
  obtain ⟨m1, e1⟩ : ∃ m1, (if most - (S.length : Int) < m0 then most - (S.length : Int) else m0) = m1 := ⟨_, rfl⟩
  obtain ⟨m2, e2⟩ : ∃ m2, (if m1 < 1 then 1 else m1) = m2 := ⟨_, rfl⟩
  have HG : Hid (giveN most S.length want = if S.length = 0 then m2 else m1) := by
    show giveN most S.length want = _
    unfold giveN
    split <;> (subst e2 e1 e0; split <;> split <;> (try split) <;> omega)
  have hg := giveN_in want hm1 hln
  by_cases hL : S.length = 0
  · have HG2 : Hid (giveN most S.length want = m2) := by have := HG.out; rw [if_pos hL] at this; exact this
    rw [HG2.out] at hg
    have hL' : ((S.length : Int) == 0) = true := by simp [hL]
    have HL := Lib.hid hL
    clear hL HG
    go_enter Try.func13, Try.ntmps13
    go_wp2_with (first | (go_at_call 19; refine (off_any _ pb mb c2).mono ?_; rintro e w' ⟨rfl, rfl⟩))
    refine wp_region_quiet_lit (by kernel_rfl) (by kernel_rfl) ?_
    repeat (first | go_big_quiet_skip | (go_big_quiet_want; first | (refine quiet_len_set _ rfl mb S rfl (fun W hW => by obtain ⟨n, rfl⟩ := hW; exact h.map) ?_; go_frame; go_big_quiet_on) | (go_big_quiet_op; go_big_quiet_on)))
    refine wpQuiet_nil ?_
    intro w1 hw1
    obtain ⟨nq, rfl⟩ := hw1
    go_wp2_with (first | (at_len; refine wpList_len_set _ rfl _ rfl mb S rfl (SetAt.drewN h.map _) ?_))
    clear e0 e1 e2 HL hL' c0 c2 hc0 hc1
    obtain ⟨N, rfl⟩ := Int.eq_ofNat_of_zero_le hg.1
    have hN : N + S.length ≤ 64 := by omega
    have hNm : (N : Int) + (S.length : Int) ≤ most := by omega
    clear hg
    go_loopw [30] (fun s wr => ∃ k : Nat, k ≤ N ∧ s = .int .i64 k ∧ Hid (Win wr pb mb most (next + k) (S ++ run next k)) ∧ Hid (Fr (Of pb mb) w wr)) (fun s _ => N - (intOf s).toNat)
    case atStart => exact ⟨0, Nat.zero_le _, rfl, (show Hid _ from by unfold run; simp; exact ⟨h.blk, h.map, h.asc, h.lt, h.m1, h.m2, h.len⟩), (show Hid _ from (Fr.refl _ _).drewN _)⟩
    case round =>
      obtain ⟨k, hk, rfl, hw, hf⟩ := hrel
      by_cases hlt : k < N
      · have c1 := hw.out.c1
        have c2 := hw.out.c2
        go_wp2_with fail
        go_still_tail 8, (by kernel_rfl)
        change wpList _ _ _ _ _ wr.drew
        have hw2 : Hid (Win wr.drew pb mb most (next + k) (S ++ run next k)) := hw.out.drew
        have hf2 : Hid (Fr (Of pb mb) w wr.drew) := hf.out.drew
        clear hw hf c1 c2
        generalize wr.drew = w2 at *
        have hmem : next + k ∉ S ++ run next k := fun hx => by have := hw2.out.lt _ hx; omega
        have HMEM := Lib.hid hmem
        clear hmem
        have hlen : (S ++ run next k).length < 1000000 := by rw [List.length_append, run_len]; omega
        go_wp2_with (first | (at_mapUpdate; refine wpList_update_set _ rfl _ _ _ (.inl rfl) mb _ rfl hw2.out.map _ rfl (next + k) (by omega) rfl (by omega) HMEM.out hlen ?_))
        intro w3 hs3 hf3
        have hb3 : Hid (Blk w3 pb 49 #[.int .i64 most, .int .u64 ((next + k : Nat) : Int), .map (some mb)]) := hw2.out.blk.fr hf3 hw2.out.ne
        have c1 := hb3.out.cell 1
        have f1 := hb3.out.frozen 1
        have hz : pb < w3.heap.size := hb3.out.lt
        have HS : Hid (SetAt w3 mb ((S ++ run next k) ++ [next + k])) := (by rw [List.append_assoc]; exact hs3)
        have HF : Hid (Fr (Of pb mb) w w3) := hf2.out.trans hf3 (fun j _ e => .inr e)
        clear hs3 hf3 hlen
        go_wp2_with fail
        go_roundw
        case rel =>
          refine ⟨k + 1, by omega, by go_num, ?_, ?_⟩
          · have hb := hb3.out.set_ 1 (.int .u64 ((next : Int) + k + 1))
            have he : S ++ run next (k + 1) = (S ++ run next k) ++ [next + k] := by rw [run_succ, List.append_assoc]
            refine ⟨?_, ?_, ?_, fun x hx => ?_, hw2.out.m1, hw2.out.m2, ?_⟩
            · simpa [Nat.add_assoc, Int.add_assoc] using hb
            · rw [he]
              exact HS.out.setCell (fun e => hw2.out.ne e.symm) _
            · exact app_asc h.asc h.lt _
            · rcases List.mem_append.1 hx with hx | hx
              · have := h.lt x hx; omega
              · have := (run_mem.1 hx).2; omega
            · rw [List.length_append, run_len]; omega
          · exact HF.out.setCell (fun _ => .inl rfl) _
        case measure => simp [intOf]; omega
      · have hkN : k = N := by omega
        subst hkN
        go_wp2_with fail
        go_ret
        unfold GivePost
        rw [HG2.out, Int.toNat_natCast]
        exact ⟨rfl, hw.out, hf.out⟩
  · have HG2 : Hid (giveN most S.length want = m1) := by have := HG.out; rw [if_neg hL] at this; exact this
    rw [HG2.out] at hg
    have hL' : ((S.length : Int) == 0) = false := by simp; intro h; exact hL (by rw [h]; rfl)
    have HL := Lib.hid hL
    clear hL HG e2
    go_enter Try.func13, Try.ntmps13
    go_wp2_with (first | (go_at_call 19; refine (off_any _ pb mb c2).mono ?_; rintro e w' ⟨rfl, rfl⟩))
    refine wp_region_quiet_lit (by kernel_rfl) (by kernel_rfl) ?_
    repeat (first | go_big_quiet_skip | (go_big_quiet_want; first | (refine quiet_len_set _ rfl mb S rfl (fun W hW => by obtain ⟨n, rfl⟩ := hW; exact h.map) ?_; go_frame; go_big_quiet_on) | (go_big_quiet_op; go_big_quiet_on)))
    refine wpQuiet_nil ?_
    intro w1 hw1
    obtain ⟨nq, rfl⟩ := hw1
    go_wp2_with (first | (at_len; refine wpList_len_set _ rfl _ rfl mb S rfl (SetAt.drewN h.map _) ?_))
    clear e0 e1 HL hL' c0 c2 hc0 hc1
    obtain ⟨N, rfl⟩ := Int.eq_ofNat_of_zero_le hg.1
    have hN : N + S.length ≤ 64 := by omega
    have hNm : (N : Int) + (S.length : Int) ≤ most := by omega
    clear hg
    go_loopw [30] (fun s wr => ∃ k : Nat, k ≤ N ∧ s = .int .i64 k ∧ Hid (Win wr pb mb most (next + k) (S ++ run next k)) ∧ Hid (Fr (Of pb mb) w wr)) (fun s _ => N - (intOf s).toNat)
    case atStart => exact ⟨0, Nat.zero_le _, rfl, (show Hid _ from by unfold run; simp; exact ⟨h.blk, h.map, h.asc, h.lt, h.m1, h.m2, h.len⟩), (show Hid _ from (Fr.refl _ _).drewN _)⟩
    case round =>
      obtain ⟨k, hk, rfl, hw, hf⟩ := hrel
      by_cases hlt : k < N
      · have c1 := hw.out.c1
        have c2 := hw.out.c2
        go_wp2_with fail
        go_still_tail 8, (by kernel_rfl)
        change wpList _ _ _ _ _ wr.drew
        have hw2 : Hid (Win wr.drew pb mb most (next + k) (S ++ run next k)) := hw.out.drew
        have hf2 : Hid (Fr (Of pb mb) w wr.drew) := hf.out.drew
        clear hw hf c1 c2
        generalize wr.drew = w2 at *
        have hmem : next + k ∉ S ++ run next k := fun hx => by have := hw2.out.lt _ hx; omega
        have HMEM := Lib.hid hmem
        clear hmem
        have hlen : (S ++ run next k).length < 1000000 := by rw [List.length_append, run_len]; omega
        go_wp2_with (first | (at_mapUpdate; refine wpList_update_set _ rfl _ _ _ (.inl rfl) mb _ rfl hw2.out.map _ rfl (next + k) (by omega) rfl (by omega) HMEM.out hlen ?_))
        intro w3 hs3 hf3
        have hb3 : Hid (Blk w3 pb 49 #[.int .i64 most, .int .u64 ((next + k : Nat) : Int), .map (some mb)]) := hw2.out.blk.fr hf3 hw2.out.ne
        have c1 := hb3.out.cell 1
        have f1 := hb3.out.frozen 1
        have hz : pb < w3.heap.size := hb3.out.lt
        have HS : Hid (SetAt w3 mb ((S ++ run next k) ++ [next + k])) := (by rw [List.append_assoc]; exact hs3)
        have HF : Hid (Fr (Of pb mb) w w3) := hf2.out.trans hf3 (fun j _ e => .inr e)
        clear hs3 hf3 hlen
        go_wp2_with fail
        go_roundw
        case rel =>
          refine ⟨k + 1, by omega, by go_num, ?_, ?_⟩
          · have hb := hb3.out.set_ 1 (.int .u64 ((next : Int) + k + 1))
            have he : S ++ run next (k + 1) = (S ++ run next k) ++ [next + k] := by rw [run_succ, List.append_assoc]
            refine ⟨?_, ?_, ?_, fun x hx => ?_, hw2.out.m1, hw2.out.m2, ?_⟩
            · simpa [Nat.add_assoc, Int.add_assoc] using hb
            · rw [he]
              exact HS.out.setCell (fun e => hw2.out.ne e.symm) _
            · exact app_asc h.asc h.lt _
            · rcases List.mem_append.1 hx with hx | hx
              · have := h.lt x hx; omega
              · have := (run_mem.1 hx).2; omega
            · rw [List.length_append, run_len]; omega
          · exact HF.out.setCell (fun _ => .inl rfl) _
        case measure => simp [intOf]; omega
      · have hkN : k = N := by omega
        subst hkN
        go_wp2_with fail
        go_ret
        unfold GivePost
        rw [HG2.out, Int.toNat_natCast]
        exact ⟨rfl, hw.out, hf.out⟩
end Go.Proofs.Yteglklcaaicjjaa
