/- Contracts of At, Take, Part, All, by walks. -/
import Derived.Test.YtceomfdppbmebaaW3
import Derived.IntWalk
namespace Go.Proofs.Ytceomfdppbmebaa
open Go.RowKit

theorem erase_flat {S : List It} {k : Nat} (hk : k < S.length) : (splice (flat S) (k * 4) (flat (S.drop (k + 1)))).take ((S.length - 1) * 4) = flat (S.eraseIdx k) := by
  have h1 : (flat S).take (k * 4) = flat (S.take k) := flat_take cells 4 cells_len S k
  unfold splice
  rw [h1, ← List.append_assoc]
  have h2 : flat (S.take k) ++ flat (S.drop (k + 1)) = flat (S.eraseIdx k) := by
    unfold flat
    rw [← List.flatMap_append, List.eraseIdx_eq_take_drop_succ]
  rw [h2]
  have h3 : (flat (S.eraseIdx k)).length = (S.length - 1) * 4 := by rw [flat_length, List.length_eraseIdx_of_lt hk]
  rw [← h3]
  exact List.take_left

theorem take_any (B : Nat) (w : World) (n pb last : Nat) (S : List It) (ao : Option Addr) (cap : Nat) (h : Pk B w pb last S ao cap) :
    Calls Try.prog 15 #[.pointer (some ⟨pb, 0, none⟩), .int .u64 (n : Int)] w fun e w' => ∃ ao' cap', e = .returned (.tuple #[(foundX (.int .i64 0) (fun it => decide (it.n = n)) S).1, .int .i64 (foundX (.int .i64 0) (fun it => decide (it.n = n)) S).2]) ∧ Pk B w' pb last (without (fun it => decide (it.n = n)) S) ao' cap' ∧ Fy B [some 45, some 60] w w' := by
  have HW := Lib.hid h
  have hS : S.length ≤ 32 := h.len
  clear h
  unfold foundX
  rcases gets_cases (fun it => decide (it.n = n)) S with ⟨hp, hg, hwo⟩ | ⟨k, it, hp, hg, hwo, hk, hk2, _⟩
  · rw [hg, hwo]
    have HP : Hid (posR (fun it => decide (it.n = n)) S = (0, 7)) := by show posR _ S = _; unfold posR; rw [hp]; rfl
    clear hg hp hwo
    go_enter Try.func15, Try.ntmps15
    go_wp2_with fail
    refine (look_any B _ n pb last S ao cap HW.out).mono ?_
    rw [HP.out]
    rintro e w3 ⟨rfl, hb3⟩
    go_wp2_with fail
    go_ret2
    exact ⟨ao, cap, rfl, HW.out.below hb3, Fy.of_below hb3⟩
  · rw [hg, hwo]
    have HP : Hid (posR (fun it => decide (it.n = n)) S = ((k : Int), 0)) := by show posR _ S = _; unfold posR; rw [hp, if_neg (by omega)]
    have HK := Lib.hid hk2
    have hxx : IsX it.x := HW.out.xs it (List.mem_of_getElem? hk2)
    clear hg hp hk2 hwo
    go_enter Try.func15, Try.ntmps15
    go_wp2_with fail
    refine (look_any B _ n pb last S ao cap HW.out).mono ?_
    rw [HP.out]
    rintro e w3 ⟨rfl, hb3⟩
    have HB3 := Lib.hid hb3
    have HW3 : Hid (Pk B w3 pb last S ao cap) := HW.out.below hb3
    clear hb3
    have c2 := HW3.out.c2
    obtain ⟨g, rfl⟩ := HW3.out.row.form (by omega)
    have hcap := HW3.out.row.le
    have hcm : cap ≤ 9223372036854775807 := by have := HW3.out.row.capmax; unfold maxLen at this; omega
    obtain ⟨d0, d1, d2, d3⟩ := row_cells HW3.out.row HK.out
    obtain ⟨im, ic, iid, ix⟩ := it
    dsimp only at d0 d1 d2 d3 hxx
    obtain ⟨z, rfl⟩ := hxx
    clear d0 d1 d2
    have hk1 : k ≤ S.length := Nat.le_of_lt hk
    have hck : ¬ cap = k := by omega
    obtain ⟨k', hk'⟩ : ∃ k', k' = k + 1 := ⟨_, rfl⟩
    have HKK := Lib.hid hk'
    have hk3 : k' ≤ S.length := by omega
    obtain ⟨ad, had, had2⟩ : ∃ ad : Addr, (if cap = k' then some (⟨g, 0, none⟩ : Addr) else some ⟨g, k' * 4, none⟩) = some ad ∧ (k' < S.length → ad = ⟨g, k' * 4, none⟩) := by
      by_cases e : cap = k'
      · exact ⟨⟨g, 0, none⟩, by rw [if_pos e], fun h => by omega⟩
      · exact ⟨⟨g, k' * 4, none⟩, by rw [if_neg e], fun _ => rfl⟩
    have HAD2 := Lib.hid had2
    clear had2
    have hwr : IntKind.i64.wrap ((k : Int) + 1) = (k' : Int) := by rw [IntWalk.i64_in _ (by omega)]; omega
    clear hk'
    go_wp2_with fail
    go_still_tail 13, (by kernel_rfl)
    change wpList _ _ _ _ _ w3.drew
    have hrow : Row B w3.drew 60 4 (some ⟨g, 0, none⟩) S.length cap (flat S) := HW3.out.row.drew
    have HQ : Hid (Blk w3.drew pb 45 #[.bool true, .int .u64 (last : Int), .slice (some ⟨g, 0, none⟩) S.length cap]) := HW3.out.blk.drew
    have HF : Hid (Fy B [some 45, some 60] w w3.drew) := Fy.of_below (HB3.out.drew)
    have hap : Hid (¬ rowOf (some ⟨g, 0, none⟩) pb) := HW3.out.apart
    have hlow : B ≤ pb := HW3.out.low
    have hxs := Lib.hid HW3.out.xs
    clear d3 c2 HB3 HW3
    generalize w3.drew = w4 at *
    have hcsl : (flat (S.drop k')).length = (S.length - k') * 4 := by rw [flat_length, List.length_drop]
    refine wpList_copy_row rfl (.tmp 33) (.tmp 40) 43 rfl 60 4 Try.underlying43 (by kernel_rfl) B g S.length cap (flat S) hrow (k * 4) (S.length - k) (cap - k) ad (S.length - k') (cap - k') rfl rfl (S.length - k') (Nat.min_eq_left (by have := HKK.out; omega)) (flat (S.drop k')) hcsl ?_ ?_ ?_ ?_
    · intro j v hj
      have hjl : j < (S.length - k') * 4 := by rw [← hcsl]; exact (List.getElem?_eq_some_iff.1 hj).1
      rw [HAD2.out (by omega), Addr.add_lit, hrow.cell (by omega)]
      have e1 : flat (S.drop k') = (flat S).drop (k' * 4) := (flat_drop cells 4 cells_len S k').symm
      rw [e1, List.getElem?_drop] at hj
      exact hj
    · have := HKK.out; omega
    · intro v hv
      unfold flat at hv
      obtain ⟨it', hit', hv⟩ := List.mem_flatMap.1 hv
      have hx' := hxs.out it' (List.mem_of_mem_drop hit')
      simp [cells] at hv
      rcases hv with rfl | rfl | rfl | rfl
      · rfl
      · rfl
      · rfl
      · exact hx'.one
    intro w5 hr5 hf5
    have hpg : pb ≠ g := fun e => hap.out ⟨_, rfl, e⟩
    have HQ5 : Hid (Blk w5 pb 45 #[.bool true, .int .u64 (last : Int), .slice (some ⟨g, 0, none⟩) S.length cap]) := HQ.out.fr hf5 hpg
    have HF5 : Hid (Fy B [some 45, some 60] w w5) := HF.out.trans (Fy.of_fr hf5 (fun i hi he => by subst he; obtain ⟨h1, o, h2, h3⟩ := hrow.tag i hi ⟨_, rfl, rfl⟩; exact ⟨h1, o, h2, by rw [h3]; simp⟩))
    obtain ⟨m, hm⟩ : ∃ m, m = S.length - 1 := ⟨_, rfl⟩
    have hcut := hr5.cut (m := m) (by omega) (by simp)
    rw [hm, HKK.out, erase_flat hk, ← hm] at hcut
    have HR5 := Lib.hid hcut
    have hwr2 : IntKind.i64.wrap ((S.length : Int) - 1) = (m : Int) := by rw [IntWalk.i64_in _ (by omega)]; omega
    have hmc : m ≤ cap := by omega
    have hm32 : m ≤ 32 := by omega
    have hml : m = (S.eraseIdx k).length := by rw [List.length_eraseIdx_of_lt hk]; exact hm
    have HML := Lib.hid hml
    have d2 : w5.cell? ⟨pb, 2, none⟩ = some (.slice (some ⟨g, 0, none⟩) S.length cap) := HQ5.out.cell 2
    clear hr5 hf5 hrow HQ HF hm hcut hml had hwr hcsl HKK
    go_wp2_with fail
    go_still_tail 14, (by kernel_rfl)
    change wpList _ _ _ _ _ w5.drew
    have HQ6 := Lib.hid HQ5.out.drew
    have HF6 : Hid (Fy B [some 45, some 60] w w5.drew) := HF5.out.trans (Fy.of_below (Below.refl _ _).drew)
    have HR6 := Lib.hid HR5.out.drew
    have f2 : w5.drew.frozen? ⟨pb, 2, none⟩ = false := HQ6.out.frozen 2
    have d2' : w5.drew.cell? ⟨pb, 2, none⟩ = some (.slice (some ⟨g, 0, none⟩) S.length cap) := HQ6.out.cell 2
    clear d2 HQ5 HF5 HR5
    generalize w5.drew = w6 at *
    have hrow6 := HR6.out
    rw [HML.out] at hrow6
    obtain ⟨hp1, hp2⟩ := put (n := m) hlow HQ6.out HML.out hrow6 (fun it' hit => hxs.out it' (List.eraseIdx_subset hit)) (by rw [← HML.out]; omega)
    have HP2 := Lib.hid hp2
    have HF7 := Lib.hid (HF6.out.trans hp1)
    clear hp1 hp2 hrow6 hwr2
    go_wp2_with fail
    go_ret2
    first | exact ⟨rfl, ⟨_, _, HP2.out⟩, HF7.out⟩ | exact ⟨_, _, rfl, HP2.out, HF7.out⟩
theorem take_anyS (B : Nat) (w : World) (n pb last : Nat) (S : List It) (ao : Option Addr) (cap : Nat) (h : PkS B w pb last S ao cap) :
    Calls Try.prog 25 #[.pointer (some ⟨pb, 0, none⟩), .int .u64 (n : Int)] w fun e w' => ∃ ao' cap', e = .returned (.tuple #[(foundX (.string { data := #[] }) (fun it => decide (it.n = n)) S).1, .int .i64 (foundX (.string { data := #[] }) (fun it => decide (it.n = n)) S).2]) ∧ PkS B w' pb last (without (fun it => decide (it.n = n)) S) ao' cap' ∧ Fy B [some 68, some 70] w w' := by
  have HW := Lib.hid h
  have hS : S.length ≤ 32 := h.len
  clear h
  unfold foundX
  rcases gets_cases (fun it => decide (it.n = n)) S with ⟨hp, hg, hwo⟩ | ⟨k, it, hp, hg, hwo, hk, hk2, _⟩
  · rw [hg, hwo]
    have HP : Hid (posR (fun it => decide (it.n = n)) S = (0, 7)) := by show posR _ S = _; unfold posR; rw [hp]; rfl
    clear hg hp hwo
    go_enter Try.func25, Try.ntmps25
    go_wp2_with fail
    refine (look_anyS B _ n pb last S ao cap HW.out).mono ?_
    rw [HP.out]
    rintro e w3 ⟨rfl, hb3⟩
    go_wp2_with fail
    go_ret2
    exact ⟨ao, cap, rfl, HW.out.below hb3, Fy.of_below hb3⟩
  · rw [hg, hwo]
    have HP : Hid (posR (fun it => decide (it.n = n)) S = ((k : Int), 0)) := by show posR _ S = _; unfold posR; rw [hp, if_neg (by omega)]
    have HK := Lib.hid hk2
    have hxx : IsXS it.x := HW.out.xs it (List.mem_of_getElem? hk2)
    clear hg hp hk2 hwo
    go_enter Try.func25, Try.ntmps25
    go_wp2_with fail
    refine (look_anyS B _ n pb last S ao cap HW.out).mono ?_
    rw [HP.out]
    rintro e w3 ⟨rfl, hb3⟩
    have HB3 := Lib.hid hb3
    have HW3 : Hid (PkS B w3 pb last S ao cap) := HW.out.below hb3
    clear hb3
    have c2 := HW3.out.c2
    obtain ⟨g, rfl⟩ := HW3.out.row.form (by omega)
    have hcap := HW3.out.row.le
    have hcm : cap ≤ 9223372036854775807 := by have := HW3.out.row.capmax; unfold maxLen at this; omega
    obtain ⟨d0, d1, d2, d3⟩ := row_cells HW3.out.row HK.out
    obtain ⟨im, ic, iid, ix⟩ := it
    dsimp only at d0 d1 d2 d3 hxx
    obtain ⟨z, rfl⟩ := hxx
    clear d0 d1 d2
    have hk1 : k ≤ S.length := Nat.le_of_lt hk
    have hck : ¬ cap = k := by omega
    obtain ⟨k', hk'⟩ : ∃ k', k' = k + 1 := ⟨_, rfl⟩
    have HKK := Lib.hid hk'
    have hk3 : k' ≤ S.length := by omega
    obtain ⟨ad, had, had2⟩ : ∃ ad : Addr, (if cap = k' then some (⟨g, 0, none⟩ : Addr) else some ⟨g, k' * 4, none⟩) = some ad ∧ (k' < S.length → ad = ⟨g, k' * 4, none⟩) := by
      by_cases e : cap = k'
      · exact ⟨⟨g, 0, none⟩, by rw [if_pos e], fun h => by omega⟩
      · exact ⟨⟨g, k' * 4, none⟩, by rw [if_neg e], fun _ => rfl⟩
    have HAD2 := Lib.hid had2
    clear had2
    have hwr : IntKind.i64.wrap ((k : Int) + 1) = (k' : Int) := by rw [IntWalk.i64_in _ (by omega)]; omega
    clear hk'
    go_wp2_with fail
    go_still_tail 13, (by kernel_rfl)
    change wpList _ _ _ _ _ w3.drew
    have hrow : Row B w3.drew 70 4 (some ⟨g, 0, none⟩) S.length cap (flat S) := HW3.out.row.drew
    have HQ : Hid (Blk w3.drew pb 68 #[.bool true, .int .u64 (last : Int), .slice (some ⟨g, 0, none⟩) S.length cap]) := HW3.out.blk.drew
    have HF : Hid (Fy B [some 68, some 70] w w3.drew) := Fy.of_below (HB3.out.drew)
    have hap : Hid (¬ rowOf (some ⟨g, 0, none⟩) pb) := HW3.out.apart
    have hlow : B ≤ pb := HW3.out.low
    have hxs := Lib.hid HW3.out.xs
    clear d3 c2 HB3 HW3
    generalize w3.drew = w4 at *
    have hcsl : (flat (S.drop k')).length = (S.length - k') * 4 := by rw [flat_length, List.length_drop]
    refine wpList_copy_row rfl (.tmp 33) (.tmp 40) 66 rfl 70 4 Try.underlying66 (by kernel_rfl) B g S.length cap (flat S) hrow (k * 4) (S.length - k) (cap - k) ad (S.length - k') (cap - k') rfl rfl (S.length - k') (Nat.min_eq_left (by have := HKK.out; omega)) (flat (S.drop k')) hcsl ?_ ?_ ?_ ?_
    · intro j v hj
      have hjl : j < (S.length - k') * 4 := by rw [← hcsl]; exact (List.getElem?_eq_some_iff.1 hj).1
      rw [HAD2.out (by omega), Addr.add_lit, hrow.cell (by omega)]
      have e1 : flat (S.drop k') = (flat S).drop (k' * 4) := (flat_drop cells 4 cells_len S k').symm
      rw [e1, List.getElem?_drop] at hj
      exact hj
    · have := HKK.out; omega
    · intro v hv
      unfold flat at hv
      obtain ⟨it', hit', hv⟩ := List.mem_flatMap.1 hv
      have hx' := hxs.out it' (List.mem_of_mem_drop hit')
      simp [cells] at hv
      rcases hv with rfl | rfl | rfl | rfl
      · rfl
      · rfl
      · rfl
      · exact hx'.one
    intro w5 hr5 hf5
    have hpg : pb ≠ g := fun e => hap.out ⟨_, rfl, e⟩
    have HQ5 : Hid (Blk w5 pb 68 #[.bool true, .int .u64 (last : Int), .slice (some ⟨g, 0, none⟩) S.length cap]) := HQ.out.fr hf5 hpg
    have HF5 : Hid (Fy B [some 68, some 70] w w5) := HF.out.trans (Fy.of_fr hf5 (fun i hi he => by subst he; obtain ⟨h1, o, h2, h3⟩ := hrow.tag i hi ⟨_, rfl, rfl⟩; exact ⟨h1, o, h2, by rw [h3]; simp⟩))
    obtain ⟨m, hm⟩ : ∃ m, m = S.length - 1 := ⟨_, rfl⟩
    have hcut := hr5.cut (m := m) (by omega) (by simp)
    rw [hm, HKK.out, erase_flat hk, ← hm] at hcut
    have HR5 := Lib.hid hcut
    have hwr2 : IntKind.i64.wrap ((S.length : Int) - 1) = (m : Int) := by rw [IntWalk.i64_in _ (by omega)]; omega
    have hmc : m ≤ cap := by omega
    have hm32 : m ≤ 32 := by omega
    have hml : m = (S.eraseIdx k).length := by rw [List.length_eraseIdx_of_lt hk]; exact hm
    have HML := Lib.hid hml
    have d2 : w5.cell? ⟨pb, 2, none⟩ = some (.slice (some ⟨g, 0, none⟩) S.length cap) := HQ5.out.cell 2
    clear hr5 hf5 hrow HQ HF hm hcut hml had hwr hcsl HKK
    go_wp2_with fail
    go_still_tail 14, (by kernel_rfl)
    change wpList _ _ _ _ _ w5.drew
    have HQ6 := Lib.hid HQ5.out.drew
    have HF6 : Hid (Fy B [some 68, some 70] w w5.drew) := HF5.out.trans (Fy.of_below (Below.refl _ _).drew)
    have HR6 := Lib.hid HR5.out.drew
    have f2 : w5.drew.frozen? ⟨pb, 2, none⟩ = false := HQ6.out.frozen 2
    have d2' : w5.drew.cell? ⟨pb, 2, none⟩ = some (.slice (some ⟨g, 0, none⟩) S.length cap) := HQ6.out.cell 2
    clear d2 HQ5 HF5 HR5
    generalize w5.drew = w6 at *
    have hrow6 := HR6.out
    rw [HML.out] at hrow6
    obtain ⟨hp1, hp2⟩ := putS (n := m) hlow HQ6.out HML.out hrow6 (fun it' hit => hxs.out it' (List.eraseIdx_subset hit)) (by rw [← HML.out]; omega)
    have HP2 := Lib.hid hp2
    have HF7 := Lib.hid (HF6.out.trans hp1)
    clear hp1 hp2 hrow6 hwr2
    go_wp2_with fail
    go_ret2
    first | exact ⟨rfl, ⟨_, _, HP2.out⟩, HF7.out⟩ | exact ⟨_, _, rfl, HP2.out, HF7.out⟩
end Go.Proofs.Ytceomfdppbmebaa
