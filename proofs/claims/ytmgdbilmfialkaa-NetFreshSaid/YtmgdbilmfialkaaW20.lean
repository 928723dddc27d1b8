/- NetCuts, by a walk over the contracts. -/
import Derived.Test.YtmgdbilmfialkaaW19
namespace Go.Proofs.Ytmgdbilmfialkaa
open Go.RowKit Go.WideShapes Go.Maps

theorem find_cut (A : List Ab) (k : Int) : findA (A.filter fun x => decide (¬ x.k = k)) k = none := by
  unfold findA
  rw [List.find?_eq_none]
  intro x hx
  have := (List.mem_filter.1 hx).2
  simp only [decide_eq_true_eq] at this ⊢
  exact this
theorem len_cut {A : List Ab} (hasc : A.Pairwise fun x y => x.k < y.k) {k : Int} {x : Ab} (h : findA A k = some x) : (A.filter fun x => decide (¬ x.k = k)).length + 1 = A.length := by
  unfold findA at h
  obtain ⟨h1, l1, l2, rfl, h3⟩ := List.find?_eq_some_iff_append.1 h
  have hk : x.k = k := by simpa using h1
  obtain ⟨_, h5, h6⟩ := List.pairwise_append.1 hasc
  have h7 := (List.pairwise_cons.1 h5).1
  have f1 : l1.filter (fun y => decide (¬ y.k = k)) = l1 := List.filter_eq_self.2 fun y hy => by
    have := h6 y hy x (List.mem_cons_self)
    simp only [decide_eq_true_eq]; omega
  have f2 : l2.filter (fun y => decide (¬ y.k = k)) = l2 := List.filter_eq_self.2 fun y hy => by
    have := h7 y hy
    simp only [decide_eq_true_eq]; omega
  rw [List.filter_append, f1, List.filter_cons_of_neg (by simpa using hk), f2, List.length_append, List.length_append, List.length_cons]
  omega
theorem Env.asc {B : Nat} {w : World} {pb mb : Nat} {last : Int} {A : List Ab} {own : Own} (h : Env B w pb mb last A own) : (A.Pairwise fun x y => x.k < y.k) ∧ ∀ x ∈ A, 1 ≤ x.k ∧ x.k ≤ last := by
  obtain ⟨L, e, h'⟩ := h.net
  subst e
  refine ⟨List.pairwise_map.2 h'.asc, fun x hx => ?_⟩
  obtain ⟨y, hy, rfl⟩ := List.mem_map.1 hx
  exact h'.rng y hy

set_option maxRecDepth 100000 in
set_option maxHeartbeats 4000000 in
theorem NetCuts_walk (ao : Option Addr) (n c : Nat) (F : Nat → ActV) (k : Int) (w : World) (hF : Acts w ao n F) (_ : n ≤ 9223372036854775807) (h1 : -9223372036854775808 ≤ k) (h2 : k ≤ 9223372036854775807) :
    Calls Try.prog 8 #[.slice ao n c, .int .i64 k] w fun e w' => e = .returned (.bool true) ∧ Below w.heap.size w w' := by
  go_enter Try.func8, Try.ntmps8
  go_wp2_with fail
  refine (played_any w ao n c F hF).mono ?_
  rintro e w1 ⟨pb, mb, rb, last, A, own, rfl, hh, hl, hb⟩
  have HE1 : Hid (Env w.heap.size w1 pb mb last A own) := hh.env
  have HB1 := Lib.hid hb
  have hlast : last < 1000000 := by omega
  have hlen := hh.env.len
  obtain ⟨hasc, hrng⟩ := hh.env.asc
  have HASC := Lib.hid hasc
  have HRNG := Lib.hid hrng
  clear hb hh hF hl hasc hrng
  go_wp2_with fail
  refine (links_any w.heap.size w1 pb mb last A own HE1.out.net).mono ?_
  rintro e w2 ⟨ro, rc, rfl, _, hb2⟩
  have HE2 := Lib.hid (HE1.out.below hb2)
  have HB2 : Hid (Below w.heap.size w w2) := HB1.out.trans (hb2.mono HB1.out.size)
  clear hb2
  go_wp2_with fail
  refine (env_cut w.heap.size w2 pb mb last A own k HE2.out h1 h2).mono ?_
  rintro e w3 ⟨rfl, own3, he3, _, hb3, _⟩
  have HE3 := Lib.hid he3
  have HB3 : Hid (Below w.heap.size w w3) := HB2.out.trans hb3
  clear he3 hb3
  cases hf : findA A k with
  | none =>
    have hc : cutR A k = (7, A) := by unfold cutR; rw [hf]
    rw [hc] at HE3
    rw [hc]
    clear hc hf
    go_wp2_with fail
    refine (links_any w.heap.size w3 pb mb last A own3 HE3.out.net).mono ?_
    rintro e w4 ⟨qo, qc, rfl, _, hb4⟩
    have HB4 : Hid (Below w.heap.size w w4) := HB3.out.trans (hb4.mono HB3.out.size)
    clear hb4
    go_wp2_with fail
    refine (works_any _).mono ?_
    rintro e w5 ⟨rfl, hb5⟩
    go_wp2_with fail
    go_ret
    exact ⟨rfl, HB4.out.trans (hb5.mono HB4.out.size)⟩
  | some x =>
    obtain ⟨C, hC⟩ : ∃ C, (A.filter fun x => decide (¬ x.k = k)) = C := ⟨_, rfl⟩
    have hc : cutR A k = (0, C) := by unfold cutR; rw [hf]; show (0, A.filter fun x => decide (¬ x.k = k)) = _; rw [hC]
    have hfn : findA C k = none := by rw [← hC]; exact find_cut A k
    have hcl : C.length + 1 = A.length := by rw [← hC]; exact len_cut HASC.out hf
    have hkr : k ≤ last := by
      unfold findA at hf
      have := (HRNG.out x (List.mem_of_find?_eq_some hf)).2
      have h5 := List.find?_some hf
      simp only [decide_eq_true_eq] at h5
      omega
    rw [hc] at HE3
    rw [hc]
    have hm : moveR C k 0 0 = ([], 7, C) := by unfold moveR; rw [hfn]
    have HFN := Lib.hid hfn
    clear hc hf hC
    go_wp2_with fail
    refine (env_move w.heap.size w3 pb mb last C own3 k 0 0 HE3.out h1 h2).mono ?_
    rw [hm]
    rintro e w4 ⟨ro4, rc4, own4, rfl, _, _, _, he4, _, hb4, _⟩
    have HE4 := Lib.hid he4
    have HB4 : Hid (Below w.heap.size w w4) := HB3.out.trans hb4
    clear he4 hb4 hm
    go_wp2_with fail
    have hlk : linkR C last = (last + 1, 0, last + 1, C ++ [⟨last + 1, [], []⟩]) := by unfold linkR; rw [if_neg (by omega)]
    refine (env_link w.heap.size w4 pb mb last C own4 HE4.out hlast).mono ?_
    rw [hlk]
    rintro e w5 ⟨rfl, own5, he5, _, hb5, _⟩
    have hfn5 : findA (C ++ [⟨last + 1, [], []⟩]) k = none := by
      have := HFN.out
      unfold findA at this ⊢
      rw [List.find?_append, this, List.find?_cons_of_neg (by simp; omega)]
      rfl
    have hdl : (C ++ [(⟨last + 1, [], []⟩ : Ab)]).length = A.length := by rw [List.length_append]; exact hcl
    obtain ⟨D, hD⟩ : ∃ D, C ++ [(⟨last + 1, [], []⟩ : Ab)] = D := ⟨_, rfl⟩
    rw [hD] at he5 hfn5 hdl
    have hs : sendR D k 0 [] = (7, D) := by unfold sendR; rw [hfn5]
    have hct : cutR D k = (7, D) := by unfold cutR; rw [hfn5]
    have HS := Lib.hid hs
    have HCT := Lib.hid hct
    have HE5 := Lib.hid he5
    have HB5 : Hid (Below w.heap.size w w5) := HB4.out.trans hb5
    have HDL := Lib.hid hdl
    clear he5 hb5 hlk hD hs hct hfn5 hdl
    go_wp2_with fail
    refine (links_any w.heap.size w5 pb mb (last + 1) D own5 HE5.out.net).mono ?_
    rintro e w6 ⟨qo, qc, rfl, _, hb6⟩
    have HE6 := Lib.hid (HE5.out.below hb6)
    have HB6 : Hid (Below w.heap.size w w6) := HB5.out.trans (hb6.mono HB5.out.size)
    clear hb6
    rw [HDL.out]
    have HNIL : Hid (Src w6 1 none 0 []) := ⟨rfl, fun j u hj => by simp at hj⟩
    go_wp2_with fail
    refine (env_send w.heap.size w6 pb mb (last + 1) D own5 k 0 none 0 0 [] HE6.out h1 h2 HNIL.out AllB.nil (by omega)).mono ?_
    rw [HS.out]
    rintro e w7 ⟨rfl, own7, he7, _, hb7, _⟩
    have HE7 := Lib.hid he7
    have HB7 : Hid (Below w.heap.size w w7) := HB6.out.trans hb7
    clear he7 hb7
    go_wp2_with fail
    refine (env_cut w.heap.size w7 pb mb (last + 1) D own7 k HE7.out h1 h2).mono ?_
    rw [HCT.out]
    rintro e w8 ⟨rfl, own8, he8, _, hb8, _⟩
    have HB8 : Hid (Below w.heap.size w w8) := HB7.out.trans hb8
    clear he8 hb8
    have hgt : k < last + 1 := by omega
    go_wp2_with fail
    refine (works_any _).mono ?_
    rintro e w9 ⟨rfl, hb9⟩
    go_wp2_with fail
    go_ret
    exact ⟨rfl, HB8.out.trans (hb9.mono HB8.out.size)⟩
end Go.Proofs.Ytmgdbilmfialkaa
