/- KeepPlays and KeepDrops, by walks over the contracts. -/
import Derived.Test.YtbgjajhnjkldkaaW16
namespace Go.Proofs.Ytbgjajhnjkldkaa
open Go.RowKit Go.WideShapes Go.Maps

theorem KeepPlays_walk (ao : Option Addr) (n c : Nat) (F : Nat → ActV) (w : World) (hF : Acts w ao n F) (_ : n ≤ 9223372036854775807) :
    Calls Try.prog 3 #[.slice ao n c] w fun e w' => e = .returned (.bool true) ∧ Below w.heap.size w w' := by
  go_enter Try.func3, Try.ntmps3
  go_wp2_with fail
  refine (played_any w ao n c F hF).mono ?_
  rintro e w1 ⟨pb, mb, rb, S, rfl, hh, _, hb⟩
  have HB := Lib.hid hb
  clear hb hh hF
  go_wp2_with fail
  refine (works_any _).mono ?_
  rintro e w2 ⟨rfl, hb2⟩
  go_wp2_with fail
  go_ret
  exact ⟨rfl, HB.out.trans (hb2.mono HB.out.size)⟩

theorem find_del_same (S : List It) (k : Int) : findS (delS S k) k = none := by
  unfold findS
  rw [List.find?_eq_none]
  intro x hx
  have := (List.mem_filter.1 hx).2
  simp only [decide_eq_true_eq] at this ⊢
  exact this
theorem find_del_other (S : List It) {j k : Int} (h : j ≠ k) : findS (delS S k) j = findS S j := by
  unfold findS delS
  induction S with
  | nil => rfl
  | cons p S ih =>
    by_cases hk : p.k = k
    · rw [List.filter_cons, if_neg (by simpa using hk), ih, List.find?_cons]
      have : decide (p.k = j) = false := by simp; intro h2; exact h (h2.symm.trans hk)
      rw [this]
    · rw [List.filter_cons, if_pos (by simpa using hk), List.find?_cons, List.find?_cons, ih]
theorem len_del {S : List It} (hasc : S.Pairwise fun x y => x.k < y.k) {k : Int} {x : It} (h : findS S k = some x) : (delS S k).length + 1 = S.length := by
  obtain ⟨i, hi, hk, _⟩ := find_idx h
  have hl := (List.getElem?_eq_some_iff.1 hi).1
  rw [delS_split hasc hi hk, List.length_append, List.length_take, List.length_drop]
  omega

set_option maxRecDepth 100000 in
set_option maxHeartbeats 2000000 in
theorem KeepDrops_walk (ao : Option Addr) (n c : Nat) (F : Nat → ActV) (k k2 : Int) (w : World) (hF : Acts w ao n F) (_ : n ≤ 9223372036854775807) (h1 : -9223372036854775808 ≤ k) (h2 : k ≤ 9223372036854775807) (h3 : -9223372036854775808 ≤ k2) (h4 : k2 ≤ 9223372036854775807) :
    Calls Try.prog 7 #[.slice ao n c, .int .i64 k, .int .i64 k2] w fun e w' => e = .returned (.bool true) ∧ Below w.heap.size w w' := by
  go_enter Try.func7, Try.ntmps7
  go_wp2_with fail
  refine (played_any w ao n c F hF).mono ?_
  rintro e w1 ⟨pb, mb, rb, S, rfl, hh, hl, hb⟩
  have HK1 : Hid (KeepAt w.heap.size w1 pb mb S) := hh.keep
  have HB1 := Lib.hid hb
  have HASC := Lib.hid hh.keep.asc
  clear hb hh hF
  go_wp2_with fail
  refine (has_any w.heap.size w1 pb mb S k HK1.out ⟨h1, h2⟩).mono ?_
  obtain ⟨b1, hb1⟩ : ∃ b, (findS S k).isSome = b := ⟨_, rfl⟩
  obtain ⟨b2, hb2⟩ : ∃ b, (findS S k2).isSome = b := ⟨_, rfl⟩
  have HB1F := Lib.hid hb1
  have HB2F := Lib.hid hb2
  clear hb1 hb2
  rw [HB1F.out]
  rintro e w2 ⟨rfl, hb2⟩
  have HK2 := Lib.hid (HK1.out.below hb2)
  have HB2 : Hid (Below w.heap.size w w2) := HB1.out.trans (hb2.mono HB1.out.size)
  clear hb2
  go_wp2_with fail
  refine (has_any w.heap.size w2 pb mb S k2 HK2.out ⟨h3, h4⟩).mono ?_
  rw [HB2F.out]
  rintro e w3 ⟨rfl, hb3⟩
  have HK3 := Lib.hid (HK2.out.below hb3)
  have HB3 : Hid (Below w.heap.size w w3) := HB2.out.trans (hb3.mono HB2.out.size)
  clear hb3
  go_wp2_with fail
  refine (len_any w.heap.size w3 pb mb S HK3.out).mono ?_
  rintro e w3' ⟨rfl, rfl⟩
  go_wp2_with fail
  refine (drop_any w.heap.size w3 pb mb S k HK3.out ⟨h1, h2⟩).mono ?_
  rw [HB1F.out]
  rintro e w4 ⟨rfl, hs4⟩
  have HK4 := Lib.hid hs4.1
  have HB4 : Hid (Below w.heap.size w w4) := HB3.out.trans (hs4.bel HB3.out.size)
  clear hs4
  go_wp2_with fail
  refine (has_any w.heap.size w4 pb mb _ k HK4.out ⟨h1, h2⟩).mono ?_
  rw [find_del_same]
  rintro e w5 ⟨rfl, hb5⟩
  have HK5 := Lib.hid (HK4.out.below hb5)
  have HB5 : Hid (Below w.heap.size w w5) := HB4.out.trans (hb5.mono HB4.out.size)
  clear hb5
  obtain ⟨m, hm⟩ : ∃ m, (delS S k).length = m := ⟨_, rfl⟩
  have HM := Lib.hid hm
  have hml : if b1 = true then m + 1 = S.length else m = S.length := by
    cases hf : findS S k with
    | none =>
      have h1 := HB1F.out
      rw [hf] at h1
      subst h1
      rw [if_neg (by simp), ← hm, delS_none hf]
    | some x =>
      have h1 := HB1F.out
      rw [hf] at h1
      subst h1
      rw [if_pos (show (some x).isSome = true from rfl), ← hm]
      exact len_del HASC.out hf
  clear hm
  obtain ⟨L, hL⟩ : ∃ m, S.length = m := ⟨_, rfl⟩
  rw [hL] at hml hl ⊢
  clear hL
  by_cases hkk : k = k2
  · subst hkk
    cases b1
    all_goals
      simp only [Bool.false_eq_true, if_false, if_true] at hml
      have i1 : IntKind.i64.wrap ((L : Int) - 1) = (L : Int) - 1 := IntWalk.i64_in _ (by omega)
      first
        | (have hml2 : (m : Int) = (L : Int) := by omega)
        | (have hml2 : (m : Int) = (L : Int) - 1 := by omega)
      clear hml
      go_wp2_with fail
      refine (len_any w.heap.size w5 pb mb _ HK5.out).mono ?_
      rw [HM.out, hml2]
      rintro e w5' ⟨rfl, rfl⟩
      go_wp2_with fail
      refine (drop_any w.heap.size w5 pb mb _ k HK5.out ⟨h1, h2⟩).mono ?_
      rw [find_del_same]
      rintro e w6 ⟨rfl, hs6⟩
      have HB6 : Hid (Below w.heap.size w w6) := HB5.out.trans (hs6.bel HB5.out.size)
      clear hs6
      go_wp2_with fail
      refine (works_any _).mono ?_
      rintro e w7 ⟨rfl, hb7⟩
      have HB7 : Hid (Below w.heap.size w w7) := HB6.out.trans (hb7.mono HB6.out.size)
      clear hb7
      go_wp2_with fail
      go_ret
      exact ⟨rfl, HB7.out⟩
  · have e1 : (k != k2) = true := by simpa using hkk
    have HFO : Hid ((findS (delS S k) k2).isSome = b2) := by
      show _ = _
      rw [find_del_other S (fun e => hkk e.symm)]; exact HB2F.out
    clear hkk
    go_wp2_with fail
    refine (has_any w.heap.size w5 pb mb _ k2 HK5.out ⟨h3, h4⟩).mono ?_
    rw [HFO.out]
    rintro e w5' ⟨rfl, hb5'⟩
    have HK5' := Lib.hid (HK5.out.below hb5')
    have HB5' : Hid (Below w.heap.size w w5') := HB5.out.trans (hb5'.mono HB5.out.size)
    clear hb5'
    cases b1
    all_goals
      simp only [Bool.false_eq_true, if_false, if_true] at hml
      have i1 : IntKind.i64.wrap ((L : Int) - 1) = (L : Int) - 1 := IntWalk.i64_in _ (by omega)
      first
        | (have hml2 : (m : Int) = (L : Int) := by omega)
        | (have hml2 : (m : Int) = (L : Int) - 1 := by omega)
      clear hml
      go_wp2_with fail
      refine (len_any w.heap.size w5' pb mb _ HK5'.out).mono ?_
      rw [HM.out, hml2]
      rintro e w5'' ⟨rfl, rfl⟩
      go_wp2_with fail
      refine (drop_any w.heap.size w5' pb mb _ k HK5'.out ⟨h1, h2⟩).mono ?_
      rw [find_del_same]
      rintro e w6 ⟨rfl, hs6⟩
      have HB6 : Hid (Below w.heap.size w w6) := HB5'.out.trans (hs6.bel HB5'.out.size)
      clear hs6
      go_wp2_with fail
      refine (works_any _).mono ?_
      rintro e w7 ⟨rfl, hb7⟩
      have HB7 : Hid (Below w.heap.size w w7) := HB6.out.trans (hb7.mono HB6.out.size)
      clear hb7
      go_wp2_with fail
      go_ret
      exact ⟨rfl, HB7.out⟩
end Go.Proofs.Ytbgjajhnjkldkaa
