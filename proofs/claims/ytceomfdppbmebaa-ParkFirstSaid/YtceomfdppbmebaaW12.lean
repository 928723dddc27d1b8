/- The laws ParkPlays, ParkOnce, ParkParts, by walks over the contracts. -/
import Derived.Test.YtceomfdppbmebaaW11
import Derived.IntWalk
namespace Go.Proofs.Ytceomfdppbmebaa
open Go.RowKit

theorem ParkPlays_walk (ao : Option Addr) (n c : Nat) (A : Nat → ActV) (w : World) (hA : Acts w ao n A) (hn : n ≤ 9223372036854775807) :
    Calls Try.prog 3 #[.slice ao n c] w fun e w' => e = .returned (.bool true) ∧ Below w.heap.size w w' := by
  go_enter Try.func3, Try.ntmps3
  go_wp2_with fail
  refine (played_any w ao n c A hA hn).mono ?_
  rintro e w1 ⟨pb, rb, last, S, rfl, hh, hl, hb⟩
  have HB := Lib.hid hb
  clear hb hh
  go_wp2_with (first | (go_at_call 11; refine (works_any _).mono ?_; rintro e w2 ⟨rfl, hb2⟩))
  go_ret
  exact ⟨rfl, HB.out.trans (hb2.mono HB.out.size)⟩

theorem sane_new {last : Nat} {S : List It} (h : Sane last S) : S.findIdx? (fun it => decide (it.n = last + 1)) = none := by
  rw [List.findIdx?_eq_none_iff]
  intro it hit
  have := (h.2 it hit).2
  simp
  omega
theorem found_new {last : Nat} {S : List It} (h : Sane last S) (c : Int) (id : Nat) (x : Int) :
    foundX (.int .i64 0) (fun it => decide (it.n = last + 1)) (S ++ [⟨last + 1, c, id, .int .i64 x⟩]) = (.int .i64 x, 0) ∧ without (fun it => decide (it.n = last + 1)) (S ++ [⟨last + 1, c, id, .int .i64 x⟩]) = S := by
  have h0 := sane_new h
  have h1 : (S ++ [(⟨last + 1, c, id, .int .i64 x⟩ : It)]).findIdx? (fun it => decide (it.n = last + 1)) = some S.length := by
    rw [List.findIdx?_append, h0]
    simp [List.findIdx?_cons]
  constructor
  · unfold foundX gets
    rw [h1]
    simp
  · unfold without
    rw [h1]
    show (S ++ [_]).eraseIdx S.length = S
    rw [List.eraseIdx_append_of_length_le (Nat.le_refl _)]
    simp
theorem found_old {last : Nat} {S : List It} (h : Sane last S) : foundX (.int .i64 0) (fun it => decide (it.n = last + 1)) S = (.int .i64 0, 7) ∧ without (fun it => decide (it.n = last + 1)) S = S := by
  have h0 := sane_new h
  constructor
  · unfold foundX gets
    rw [h0]
  · unfold without
    rw [h0]

set_option maxRecDepth 100000 in
set_option maxHeartbeats 1000000 in
theorem ParkOnce_walk (ao : Option Addr) (n c : Nat) (A : Nat → ActV) (conn : Int) (id : Nat) (x : Int) (w : World) (hA : Acts w ao n A) (hn : n ≤ 9223372036854775807) (_ : -9223372036854775808 ≤ conn) (_ : conn ≤ 9223372036854775807) (_ : id < 18446744073709551616) (_ : -9223372036854775808 ≤ x) (_ : x ≤ 9223372036854775807) :
    Calls Try.prog 4 #[.slice ao n c, .int .i64 conn, .int .u64 (id : Int), .int .i64 x] w fun e w' => e = .returned (.bool true) ∧ Below w.heap.size w w' := by
  go_enter Try.func4, Try.ntmps4
  go_wp2_with fail
  refine (played_any w ao n c A hA hn).mono ?_
  rintro e w1 ⟨pb, rb, last, S, rfl, hh, hl, hb⟩
  have HB := Lib.hid hb
  obtain ⟨⟨po, pc, hp⟩, _, hs⟩ := hh
  have HP := Lib.hid hp
  have HS := Lib.hid hs
  have hS := hp.len
  clear hb hp hs hA
  go_wp2_with fail
  refine (all_any _ _ pb last S po pc HP.out).mono ?_
  rintro e w2 ⟨ro, rc, rfl, hrow, hb2⟩
  have HB2 : Hid (Below w.heap.size w w2) := HB.out.trans (hb2.mono HB.out.size)
  have HP2 := Lib.hid (HP.out.below hb2)
  clear hrow hb2
  go_wp2_with fail
  by_cases hfull : S.length = 32
  · refine (add_full _ _ conn id pb last (.int .i64 x) S po pc HP2.out hfull).mono ?_
    rintro e w3 ⟨rfl, rfl⟩
    go_wp2_with (first | (go_at_call 11; refine (works_any _).mono ?_; rintro e w4 ⟨rfl, hb4⟩))
    go_ret
    exact ⟨rfl, HB2.out.trans (hb4.mono HB2.out.size)⟩
  · have hlt : S.length < 32 := by omega
    refine (add_ok _ _ conn id pb last (.int .i64 x) S po pc HP2.out HB2.out.size hlt (by omega) ⟨_, rfl⟩).mono ?_
    rintro e w3 ⟨ao3, c3, rfl, hp3, hf3⟩
    have HB3 : Hid (Below w.heap.size w w3) := HB2.out.trans (hf3.below HB2.out.size)
    have HP3 := Lib.hid hp3
    have HN := Lib.hid (found_new HS.out conn id x)
    have HO := Lib.hid (found_old HS.out)
    clear hp3 hf3
    go_wp2_with fail
    refine (at_any _ _ (last + 1) pb (last + 1) _ _ _ HP3.out).mono ?_
    rw [HN.out.1]
    rintro e w4 ⟨rfl, hb4⟩
    have HB4 : Hid (Below w.heap.size w w4) := HB3.out.trans (hb4.mono HB3.out.size)
    have HP4 := Lib.hid (HP3.out.below hb4)
    clear hb4
    go_wp2_with fail
    refine (take_any _ _ (last + 1) pb (last + 1) _ _ _ HP4.out).mono ?_
    rw [HN.out.1, HN.out.2]
    rintro e w5 ⟨ao5, c5, rfl, hp5, hf5⟩
    have HB5 : Hid (Below w.heap.size w w5) := HB4.out.trans (hf5.below HB4.out.size)
    have HP5 := Lib.hid hp5
    clear hp5 hf5
    go_wp2_with fail
    refine (take_any _ _ (last + 1) pb (last + 1) _ _ _ HP5.out).mono ?_
    rw [HO.out.1, HO.out.2]
    rintro e w6 ⟨ao6, c6, rfl, hp6, hf6⟩
    have HB6 : Hid (Below w.heap.size w w6) := HB5.out.trans (hf6.below HB5.out.size)
    have HP6 := Lib.hid hp6
    clear hp6 hf6
    go_wp2_with fail
    refine (at_any _ _ (last + 1) pb (last + 1) _ _ _ HP6.out).mono ?_
    rw [HO.out.1]
    rintro e w7 ⟨rfl, hb7⟩
    have HB7 : Hid (Below w.heap.size w w7) := HB6.out.trans (hb7.mono HB6.out.size)
    have HP7 := Lib.hid (HP6.out.below hb7)
    clear hb7
    go_wp2_with fail
    refine (all_any _ _ pb (last + 1) S _ _ HP7.out).mono ?_
    rintro e w8 ⟨ro8, rc8, rfl, hrow, hb8⟩
    have HB8 : Hid (Below w.heap.size w w8) := HB7.out.trans (hb8.mono HB7.out.size)
    clear hrow hb8
    go_wp2_with (first | (go_at_call 11; refine (works_any _).mono ?_; rintro e w9 ⟨rfl, hb9⟩))
    go_ret
    exact ⟨rfl, HB8.out.trans (hb9.mono HB8.out.size)⟩

theorem part_facts (c : Int) (S : List It) : partX c (partL c S) = [] ∧ partL c (partL c S) = partL c S ∧ (partL c S).length + (partX c S).length = S.length := by
  unfold partX partL
  refine ⟨?_, ?_, ?_⟩
  · rw [List.filter_filter]
    have : S.filter (fun it => decide (it.conn = c) && decide (¬ it.conn = c)) = [] := by
      rw [List.filter_eq_nil_iff]
      intro a _
      simp
    rw [this]
    rfl
  · rw [List.filter_filter]
    congr 1
    funext a
    simp
  · rw [List.length_map]
    induction S with
    | nil => rfl
    | cons a S ih =>
      by_cases h : a.conn = c
      · simp only [List.filter_cons, h, decide_true, not_true, decide_false, if_true, List.length_cons, Bool.false_eq_true, if_false]
        omega
      · simp only [List.filter_cons, h, decide_true, not_false_iff, decide_false, if_true, List.length_cons, Bool.false_eq_true, if_false]
        omega
theorem part_find (c : Int) (id : Nat) (S : List It) : foundN (fun it => decide (it.conn = c ∧ it.id = id)) (partL c S) = (0, 7) := by
  unfold foundN gets
  have : (partL c S).findIdx? (fun it => decide (it.conn = c ∧ it.id = id)) = none := by
    rw [List.findIdx?_eq_none_iff]
    intro it hit
    have := (List.mem_filter.1 hit).2
    simp at this ⊢
    intro h
    exact absurd h this
  rw [this]

set_option maxRecDepth 100000 in
set_option maxHeartbeats 1000000 in
theorem ParkParts_walk (ao : Option Addr) (n c : Nat) (A : Nat → ActV) (conn : Int) (id : Nat) (w : World) (hA : Acts w ao n A) (hn : n ≤ 9223372036854775807) (_ : -9223372036854775808 ≤ conn) (_ : conn ≤ 9223372036854775807) (_ : id < 18446744073709551616) :
    Calls Try.prog 6 #[.slice ao n c, .int .i64 conn, .int .u64 (id : Int)] w fun e w' => e = .returned (.bool true) ∧ Below w.heap.size w w' := by
  go_enter Try.func6, Try.ntmps6
  go_wp2_with fail
  refine (played_any w ao n c A hA hn).mono ?_
  rintro e w1 ⟨pb, rb, last, S, rfl, hh, hl, hb⟩
  have HB := Lib.hid hb
  obtain ⟨⟨po, pc, hp⟩, _, hs⟩ := hh
  have HP := Lib.hid hp
  have hS := hp.len
  clear hb hp hs hA
  go_wp2_with fail
  refine (all_any _ _ pb last S po pc HP.out).mono ?_
  rintro e w2 ⟨ro, rc, rfl, hrow, hb2⟩
  have HB2 : Hid (Below w.heap.size w w2) := HB.out.trans (hb2.mono HB.out.size)
  have HP2 := Lib.hid (HP.out.below hb2)
  clear hrow hb2
  go_wp2_with fail
  refine (part_any _ _ conn pb last S po pc HP2.out HB2.out.size).mono ?_
  rintro e w3 ⟨ro3, rc3, ao3, c3, rfl, hrow, hp3, hf3⟩
  have HB3 : Hid (Below w.heap.size w w3) := HB2.out.trans (hf3.below HB2.out.size)
  have HP3 := Lib.hid hp3
  obtain ⟨p1, p2, p3⟩ := part_facts conn S
  have HF1 := Lib.hid p1
  have HF2 := Lib.hid p2
  have HF3 := Lib.hid (part_find conn id S)
  clear hrow hp3 hf3 p1 p2
  go_wp2_with fail
  refine (part_any _ _ conn pb last (partL conn S) ao3 c3 HP3.out HB3.out.size).mono ?_
  rw [HF1.out, HF2.out]
  rintro e w4 ⟨ro4, rc4, ao4, c4, rfl, hrow, hp4, hf4⟩
  have HB4 : Hid (Below w.heap.size w w4) := HB3.out.trans (hf4.below HB3.out.size)
  have HP4 := Lib.hid hp4
  clear hrow hp4 hf4
  go_wp2_with fail
  refine (find_any _ _ conn id pb last (partL conn S) ao4 c4 HP4.out).mono ?_
  rw [HF3.out]
  rintro e w5 ⟨rfl, hb5⟩
  have HB5 : Hid (Below w.heap.size w w5) := HB4.out.trans (hb5.mono HB4.out.size)
  have HP5 := Lib.hid (HP4.out.below hb5)
  clear hb5
  go_wp2_with fail
  refine (all_any _ _ pb last _ _ _ HP5.out).mono ?_
  rintro e w6 ⟨ro6, rc6, rfl, hrow, hb6⟩
  have HB6 : Hid (Below w.heap.size w w6) := HB5.out.trans (hb6.mono HB5.out.size)
  clear hrow hb6
  have hlen : (S.length : Int) - ((partX conn S).length : Int) = ((partL conn S).length : Int) := by omega
  generalize partX conn S = X at *
  generalize partL conn S = L at *
  have hX : X.length ≤ 32 := by omega
  have hw : IntKind.i64.wrap ((S.length : Int) - (X.length : Int)) = (L.length : Int) := by rw [IntWalk.i64_in _ (by omega)]; omega
  clear p3
  go_wp2_with (first | (go_at_call 11; refine (works_any _).mono ?_; rintro e w9 ⟨rfl, hb9⟩))
  go_ret
  exact ⟨rfl, HB6.out.trans (hb9.mono HB6.out.size)⟩
end Go.Proofs.Ytceomfdppbmebaa
