/- Contracts of the document's Add, Take, Part, by walks. -/
import Derived.Test.YtceomfdppbmebaaW7
import Derived.IntWalk
namespace Go.Proofs.Ytceomfdppbmebaa
open Go.RowKit

section
variable {B : Nat} {w w' : World} {pb last : Nat} {S : List It} {ao : Option Addr} {cap : Nat}
theorem Rp.apart (h : Rp B w pb last S ao cap) : ¬ rowOf ao pb := by
  intro hk
  obtain ⟨_, o, ho, ht⟩ := h.row.tag pb h.lt hk
  have := h.blk
  unfold Blk at this
  rw [this] at ho
  injection ho with ho
  subst ho
  cases ht
theorem Rp.grow (h : Rp B w pb last S ao cap) : Fy B [some 50, some 64] w (w.setCell ⟨pb, 1, none⟩ (.int .u64 ((last : Int) + 1))) ∧ Rp B (w.setCell ⟨pb, 1, none⟩ (.int .u64 ((last : Int) + 1))) pb (last + 1) S ao cap := by
  have hf : Fr (fun k => k = pb) w (w.setCell ⟨pb, 1, none⟩ (.int .u64 ((last : Int) + 1))) := (Fr.refl (fun k => k = pb) w).setCell (p := ⟨pb, 1, none⟩) (fun _ => rfl) _
  refine ⟨Fy.of_fr hf (fun k _ hk => by subst hk; exact ⟨h.low, _, h.blk, by simp [tagOf]⟩), h.low, h.blk.set_ 1 _, h.row.fr hf (fun k hk e => h.apart (e ▸ hk)), h.xs, h.len⟩
theorem Rp.grown (h : Rp B w pb last S ao cap) (hf : Fr (rowOf ao) w w') :
    Fy B [some 50, some 64] w w' ∧ Blk w' pb 50 #[.slice ao S.length cap, .int .u64 (last : Int)] :=
  ⟨Fy.of_fr hf (fun k hk hr => by obtain ⟨h1, o, h2, h3⟩ := h.row.tag k hk hr; exact ⟨h1, o, h2, by rw [h3]; simp⟩), h.blk.fr hf h.apart⟩
end
theorem rput {B : Nat} {w : World} {pb last : Nat} {S' : List It} {ao' : Option Addr} {cap' n : Nat} {v : Value} (hlow : B ≤ pb) (h : Blk w pb 50 #[v, .int .u64 (last : Int)]) (hn : n = S'.length) (hr : Row B w 64 4 ao' S'.length cap' (flat S')) (hx : ∀ it ∈ S', IsX it.x) (hl : S'.length ≤ 32) :
    Fy B [some 50, some 64] w (w.setCell ⟨pb, 0, none⟩ (.slice ao' n cap')) ∧ Rp B (w.setCell ⟨pb, 0, none⟩ (.slice ao' n cap')) pb last S' ao' cap' := by
  subst hn
  have hf : Fr (fun k => k = pb) w (w.setCell ⟨pb, 0, none⟩ (.slice ao' S'.length cap')) := (Fr.refl (fun k => k = pb) w).setCell (p := ⟨pb, 0, none⟩) (fun _ => rfl) _
  refine ⟨Fy.of_fr hf (fun k _ hk => by subst hk; exact ⟨hlow, _, h, by simp [tagOf]⟩), hlow, h.set_ 0 _, hr.fr hf ?_, hx, hl⟩
  rintro k hk rfl
  obtain ⟨_, o, ho, ht⟩ := hr.tag k h.lt hk
  unfold Blk at h
  rw [h] at ho
  injection ho with ho
  subst ho
  cases ht

theorem radd_full (B : Nat) (w : World) (cn : Int) (n pb last : Nat) (x : Value) (S : List It) (ao : Option Addr) (cap : Nat) (h : Rp B w pb last S ao cap) (hl : S.length = 32) :
    Calls Try.prog 30 #[.pointer (some ⟨pb, 0, none⟩), .int .i64 cn, .int .u64 (n : Int), x] w fun e w' => e = .returned (.tuple #[.int .u64 0, .int .i64 3]) ∧ w = w' := by
  have c0 := h.c0
  go_enter Try.func30, Try.ntmps30
  go_wp2_with fail
  go_ret2
  exact ⟨rfl, rfl⟩

theorem inf64 : (Try.prog.info? 64).map (fun i => (i.zero, i.size, i.bytes)) = some (some (.agg #[.int .u64 0, .int .i64 0, .int .u64 0, .int .i64 0]), 4, 32) := by kernel_rfl

theorem radd_ok (B : Nat) (w : World) (cn : Int) (n pb last : Nat) (x : Value) (S : List It) (ao : Option Addr) (cap : Nat) (h : Rp B w pb last S ao cap) (hB : B ≤ w.heap.size) (hl : S.length < 32) (hlast : last < 1000) (hx : IsX x) :
    Calls Try.prog 30 #[.pointer (some ⟨pb, 0, none⟩), .int .i64 cn, .int .u64 (n : Int), x] w fun e w' => ∃ ao' cap', e = .returned (.tuple #[.int .u64 ((last + 1 : Nat) : Int), .int .i64 0]) ∧ Rp B w' pb (last + 1) (S ++ [⟨last + 1, cn, n, x⟩]) ao' cap' ∧ Fy B [some 50, some 64] w w' := by
  have c1 := h.c1
  have c2 := h.c0
  have f1 := h.blk.frozen 1
  obtain ⟨hf1, hw1⟩ := h.grow
  have HX := Lib.hid hx
  obtain ⟨z, rfl⟩ := hx
  have HF := Lib.hid hf1
  have HW := Lib.hid hw1
  clear hf1 hw1 h
  go_enter Try.func30, Try.ntmps30
  go_wp2_with fail
  have hpb := HW.out.lt
  generalize w.setCell ⟨pb, 1, none⟩ (.int .u64 ((last : Int) + 1)) = w1 at *
  clear c1 c2 f1
  have d1 : w1.cell? ⟨pb, 1, none⟩ = some (.int .u64 ((last : Int) + 1)) := HW.out.c1
  have d2 := HW.out.c0
  have hB1 : B ≤ w1.heap.size := Nat.le_trans hB HF.out.size
  obtain ⟨i0, hi, hz0, hz1, hz2⟩ := info_parts inf64
  go_region_law (
    (refine step_append_row rfl (.tmp 27) (.tmp 36) 48 rfl 64 i0 _ 4 32 Try.underlying48 hi hz0 hz1 hz2 rfl (by decide) (by decide) B ao S.length cap (flat S) rfl ?_ w1.heap.size 0 1 1 (cells ⟨last + 1, cn, n, .int .i64 z⟩) rfl rfl ?_ ?_ ?_ ?_ ?_
     · exact HW.out.row.fr (((Fr.refl none0 _).drew).alloc _) (fun _ _ h => h)
     · exact news_new _ _ _ _ rfl
     · intro u hu; simp [cells] at hu; rcases hu with rfl | rfl | rfl | rfl <;> rfl
     · omega
     · simp; omega
     intro ao' cap' w3 hr3 hf3 hne
     obtain ⟨hq1, hq2⟩ := (HW.out.below (((Below.refl _ _).drew).alloc (Nat.le_refl _) _)).grown hf3
     have HF3 : Hid (Fy B [some 50, some 64] w w3) := (HF.out.trans (Fy.of_below (((Below.refl _ _).drew).alloc (Nat.le_refl _) _))).trans hq1
     have HQ := Lib.hid hq2
     have HR := Lib.hid hr3
     clear hq1 hr3 hf3
     have e2 : w3.cell? ⟨pb, 0, none⟩ = some (.slice ao S.length cap) := hq2.cell 0
     have e3 : w3.frozen? ⟨pb, 0, none⟩ = false := hq2.frozen 0
     clear hq2))
  all_goals
    have hfl : flat S ++ cells ⟨last + 1, cn, n, .int .i64 z⟩ = flat (S ++ [⟨last + 1, cn, n, .int .i64 z⟩]) := by simp [flat]
    have hlen : (S ++ [(⟨last + 1, cn, n, .int .i64 z⟩ : It)]).length = S.length + 1 := by simp
    have hrow := HR.out
    rw [hfl, ← hlen] at hrow
    obtain ⟨hp1, hp2⟩ := rput (n := S.length + 1) HW.out.low HQ.out hlen.symm hrow (fun it hit => by
      rcases List.mem_append.1 hit with h | h
      · exact HW.out.xs it h
      · rw [List.mem_singleton.1 h]; exact HX.out) (by rw [hlen]; omega)
    have HP2 := Lib.hid hp2
    have HF4 := Lib.hid (HF3.out.trans hp1)
    clear hfl hlen hrow hp1 hp2 HR HQ HF3 e2 e3
    generalize w3.setCell ⟨pb, 0, none⟩ (.slice ao' (S.length + 1) cap') = w4 at *
    have d1 : w4.cell? ⟨pb, 1, none⟩ = some (.int .u64 ((last : Int) + 1)) := HP2.out.c1
    go_wp2_with fail
    go_ret2
    exact ⟨ao', cap', rfl, HP2.out, HF4.out⟩

theorem flat_one {S : List It} (hx : ∀ it ∈ S, IsX it.x) : ∀ u ∈ flat S, u.oneCell' = true := by
  intro v hv
  unfold flat at hv
  obtain ⟨it', hit', hv⟩ := List.mem_flatMap.1 hv
  have hx' := hx it' hit'
  simp [cells] at hv
  rcases hv with rfl | rfl | rfl | rfl
  · rfl
  · rfl
  · rfl
  · exact hx'.one

set_option maxHeartbeats 1000000 in
theorem rtake_any (B : Nat) (w : World) (n pb last : Nat) (S : List It) (ao : Option Addr) (cap : Nat) (h : Rp B w pb last S ao cap) (hB : B ≤ w.heap.size) :
    Calls Try.prog 31 #[.pointer (some ⟨pb, 0, none⟩), .int .u64 (n : Int)] w fun e w' => ∃ ao' cap', e = .returned (.tuple #[(foundX (.int .i64 0) (fun it => decide (it.n = n)) S).1, .int .i64 (foundX (.int .i64 0) (fun it => decide (it.n = n)) S).2]) ∧ Rp B w' pb last (without (fun it => decide (it.n = n)) S) ao' cap' ∧ Fy B [some 50, some 64] w w' := by
  have HW := Lib.hid h
  have hS : S.length ≤ 32 := h.len
  have c0 := h.c0
  clear h
  have HC := Lib.hid (rat_any B w n pb last S ao cap HW.out)
  rcases gets_cases (fun it => decide (it.n = n)) S with ⟨hp, hg, hwo⟩ | ⟨k, it, hp, hg, hwo, hk, hk2, _⟩
  · rw [hwo]
    have hfx : foundX (.int .i64 0) (fun it => decide (it.n = n)) S = (.int .i64 0, 7) := by unfold foundX; rw [hg]
    rw [hfx]
    have HFX := Lib.hid hfx
    clear hg hp hwo hfx
    go_enter Try.func31, Try.ntmps31
    go_wp2_with fail
    refine HC.out.mono ?_
    rw [HFX.out]
    rintro e w3 ⟨rfl, rfl⟩
    go_wp2_with fail
    go_ret2
    exact ⟨ao, cap, rfl, HW.out, Fy.refl _ _ _⟩
  · rw [hwo]
    have hxx : IsX it.x := HW.out.xs it (List.mem_of_getElem? hk2)
    obtain ⟨z, hz⟩ := hxx
    have hfx : foundX (.int .i64 0) (fun it => decide (it.n = n)) S = (.int .i64 z, 0) := by unfold foundX; rw [hg]; show (it.x, _) = _; rw [hz]
    rw [hfx]
    have HFX := Lib.hid hfx
    have HP := Lib.hid hp
    clear hg hp hwo hfx hz hk2
    obtain ⟨g, rfl⟩ := HW.out.row.form (by omega)
    have hcap := HW.out.row.le
    have hcm : cap ≤ 9223372036854775807 := by have := HW.out.row.capmax; unfold maxLen at this; omega
    have hk1 : k ≤ S.length := Nat.le_of_lt hk
    have hkc : k ≤ cap := by omega
    obtain ⟨k', hk'⟩ : ∃ k', k' = k + 1 := ⟨_, rfl⟩
    have HKK := Lib.hid hk'
    have hk3 : k' ≤ S.length := by omega
    obtain ⟨b2, o2, had, had2⟩ : ∃ (b2 o2 : Nat), (if cap = k' then some (⟨g, 0, none⟩ : Addr) else some ⟨g, k' * 4, none⟩) = some ⟨b2, o2, none⟩ ∧ (k' < S.length → b2 = g ∧ o2 = k' * 4) := by
      by_cases e : cap = k'
      · exact ⟨g, 0, by rw [if_pos e], fun h => by omega⟩
      · exact ⟨g, k' * 4, by rw [if_neg e], fun _ => ⟨rfl, rfl⟩⟩
    have HAD2 := Lib.hid had2
    clear had2
    have hwr : IntKind.i64.wrap ((k : Int) + 1) = (k' : Int) := by rw [IntWalk.i64_in _ (by omega)]; omega
    clear hk'
    obtain ⟨i0, hi, hz0, hz1, hz2⟩ := info_parts inf64
    have hrow := Lib.hid HW.out.row
    have hl1 : (flat (S.take k)).length = k * 4 := by rw [flat_length, List.length_take]; omega
    go_enter Try.func31, Try.ntmps31
    go_wp2_with fail
    refine HC.out.mono ?_
    rw [HFX.out]
    rintro e w3 ⟨rfl, rfl⟩
    go_wp2_with fail
    refine (rplace_any B _ n pb last S _ cap HW.out).mono ?_
    rw [HP.out]
    rintro e w3 ⟨rfl, rfl⟩
    go_wp2_with (at_builtin; refine wpList_append_row rfl (.tmp 22) (.tmp 28) 48 rfl 64 i0 _ 4 32 Try.underlying48 hi hz0 hz1 hz2 rfl (by decide) (by decide) w.heap.size none 0 0 [] rfl (Row.nil _ _ _ _) g 0 k cap (flat (S.take k)) rfl hl1 ?_ ?_ ?_ ?_ ?_)
    · intro j u hj
      have e1 : flat (S.take k) = (flat S).take (k * 4) := (flat_take cells 4 cells_len S k).symm
      have hjl : j < k * 4 := by rw [← hl1]; exact (List.getElem?_eq_some_iff.1 hj).1
      rw [Nat.zero_add, hrow.out.cell (by omega), ← hj, e1, List.getElem?_take, if_pos hjl]
    · exact flat_one (fun it hit => HW.out.xs it (List.mem_of_mem_take hit))
    · omega
    · first | omega | (simp; omega)
    intro ro rc w4 hr4 hf4 _
    have hr4' : Row w.heap.size w4 64 4 ro k rc (flat (S.take k)) := by simpa using hr4
    have HR4 := Lib.hid hr4'
    have hf4' : Fr none0 w w4 := hf4.mono (fun _ _ h => by obtain ⟨_, h, _⟩ := h; cases h)
    have HW4 : Hid (Rp B w4 pb last S (some ⟨g, 0, none⟩) cap) := HW.out.below (hf4'.below (Nat.le_refl _) (fun _ h => h.elim))
    have HF4 := Lib.hid hf4'
    have hrow4 := Lib.hid HW4.out.row
    have c0 := HW4.out.c0
    have hb4 := HF4.out.size
    have hcsl : (flat (S.drop k')).length = (S.length - k') * 4 := by rw [flat_length, List.length_drop]
    clear hr4 hr4' hf4 hf4'
    go_wp2_with (at_builtin; refine wpList_append_row rfl (.tmp 31) (.tmp 38) 48 rfl 64 i0 _ 4 32 Try.underlying48 hi hz0 hz1 hz2 rfl (by decide) (by decide) w.heap.size ro k rc (flat (S.take k)) rfl HR4.out b2 o2 (S.length - k') (cap - k') (flat (S.drop k')) rfl hcsl ?_ ?_ ?_ ?_ ?_)
    · intro j u hj
      have hjl : j < (S.length - k') * 4 := by rw [← hcsl]; exact (List.getElem?_eq_some_iff.1 hj).1
      obtain ⟨e1, e2⟩ := HAD2.out (by omega)
      have e3 : flat (S.drop k') = (flat S).drop (k' * 4) := (flat_drop cells 4 cells_len S k').symm
      rw [e3, List.getElem?_drop] at hj
      rw [e1, e2, hrow4.out.cell (by omega), hj]
    · exact flat_one (fun it hit => HW.out.xs it (List.mem_of_mem_drop hit))
    · omega
    · first | omega | (simp; omega)
    intro ro' rc' w5 hr5 hf5 _
    have hwo : flat (S.take k) ++ flat (S.drop k') = flat (S.eraseIdx k) := by
      unfold flat
      rw [← List.flatMap_append, HKK.out, List.eraseIdx_eq_take_drop_succ]
    obtain ⟨m, hm⟩ : ∃ m, k + (S.length - k') = m := ⟨_, rfl⟩
    have hml : m = (S.eraseIdx k).length := by rw [List.length_eraseIdx_of_lt hk]; have := HKK.out; omega
    rw [hwo, hm] at hr5
    have HML := Lib.hid hml
    have hrow5 := hr5.base hB
    rw [hml] at hrow5
    have hap5 : Blk w5 pb 50 #[.slice (some ⟨g, 0, none⟩) S.length cap, .int .u64 (last : Int)] := HW4.out.blk.fr hf5 (fun hk => by
      have h1 := (HR4.out.tag pb HW4.out.lt hk).1
      have h2 := HW.out.lt
      omega)
    obtain ⟨hp1, hp2⟩ := rput (n := m) HW.out.low hap5 hml hrow5 (fun it' hit => HW.out.xs it' (List.eraseIdx_subset hit)) (by have h9 := List.length_eraseIdx_of_lt hk; omega)
    have HF5 : Hid (Fr none0 w w5) := HF4.out.rowed HR4.out (Nat.le_refl _) hf5
    have HP2 := Lib.hid hp2
    have HF7 : Hid (Fy B [some 50, some 64] w (w5.setCell ⟨pb, 0, none⟩ (.slice ro' m rc'))) := (Fy.of_below (HF5.out.below (Nat.le_refl _) (fun _ h => h.elim))).trans hp1
    have f2 := hap5.frozen 0
    have d2' : w5.cell? ⟨pb, 0, none⟩ = some (.slice (some ⟨g, 0, none⟩) S.length cap) := hap5.cell 0
    clear hp1 hp2 hrow5 hwr hwo hml hr5 hf5 hap5 had c0
    go_wp2_with fail
    go_ret2
    first | exact ⟨rfl, ⟨_, _, HP2.out⟩, HF7.out⟩ | exact ⟨_, _, rfl, HP2.out, HF7.out⟩

set_option maxHeartbeats 1000000 in
theorem rpart_any (B : Nat) (w : World) (c : Int) (pb last : Nat) (S : List It) (ao : Option Addr) (cap : Nat) (h : Rp B w pb last S ao cap) (hB : B ≤ w.heap.size) :
    Calls Try.prog 34 #[.pointer (some ⟨pb, 0, none⟩), .int .i64 c] w fun e w' => ∃ ro rc ao' cap', e = .returned (.slice ro (partX c S).length rc) ∧ Row w.heap.size w' 3 1 ro (partX c S).length rc (partX c S) ∧ Rp B w' pb last (partL c S) ao' cap' ∧ Fy B [some 50, some 64] w w' := by
  have HW := Lib.hid h
  have hS : S.length ≤ 32 := h.len
  clear h
  obtain ⟨i0, hi, hz0, hz1, hz2⟩ := info_parts inf3
  obtain ⟨i1, gi, gz0, gz1, gz2⟩ := info_parts inf64
  go_enter Try.func34, Try.ntmps34
  go_wp2_with fail
  go_loopw [5, 6, 7] (fun s5 s6 s16 wr => ∃ (k m l : Nat) (ro lo : Option Addr) (rc lc : Nat), k ≤ S.length ∧ s16 = .int .i64 k ∧ s5 = .slice ro m rc ∧ s6 = .slice lo l lc ∧ m ≤ 32 ∧ l ≤ 32 ∧ Hid (Fr none0 w wr) ∧ Hid (m = (partX c (S.take k)).length) ∧ Hid (l = (partL c (S.take k)).length) ∧ Hid (Row w.heap.size wr 3 1 ro m rc (partX c (S.take k))) ∧ Hid (Row w.heap.size wr 64 4 lo l lc (flat (partL c (S.take k))))) (fun _ _ s _ => S.length - (intOf s).toNat)
  case atStart => exact ⟨0, 0, 0, none, none, 0, 0, Nat.zero_le _, rfl, rfl, rfl, Nat.zero_le _, Nat.zero_le _, Fr.refl _ _, rfl, rfl, Row.nil _ _ _ _, Row.nil _ _ _ _⟩
  case round =>
    obtain ⟨k, m, l, ro, lo, rc, lc, hk, rfl, rfl, rfl, hm, hl, hf, hme, hle, hr, hr2⟩ := hrel
    have hwr : Hid (Rp B wr pb last S ao cap) := HW.out.below (hf.out.below (Nat.le_refl _) (fun _ h => h.elim))
    have c0 := hwr.out.c0
    by_cases hlt : k < S.length
    · obtain ⟨g, rfl⟩ := HW.out.row.form (by omega)
      have hk2 : S[k]? = some S[k] := List.getElem?_eq_getElem hlt
      have hx1 : IsX (S[k]).x := HW.out.xs _ (List.getElem_mem hlt)
      obtain ⟨d0, d1, d2, d3⟩ := row_cells hwr.out.row hk2
      have HK := Lib.hid hk2
      have hpl := Lib.hid (part_len c S (k + 1))
      clear hk2
      generalize S[k] = it at *
      obtain ⟨im, ic, iid, ix⟩ := it
      dsimp only at d0 d1 d2 d3 hx1
      obtain ⟨z, rfl⟩ := hx1
      have hb := hf.out.size
      by_cases hq : ic = c
      · obtain ⟨e1, e2⟩ := partX_yes HK.out hq
        subst hq
        have HE1 := Lib.hid e1
        have HE2 := Lib.hid e2
        have HF1 : Hid (Fr none0 w (wr.alloc (.cells #[.int .i64 z] 3))) := hf.out.alloc _
        have HR1 : Hid (Row w.heap.size (wr.alloc (.cells #[.int .i64 z] 3)) 3 1 ro m rc (partX ic (S.take k))) := hr.out.fr ((Fr.refl none0 _).alloc _) (fun _ _ h => h)
        have HR2 : Hid (Row w.heap.size (wr.alloc (.cells #[.int .i64 z] 3)) 64 4 lo l lc (flat (partL ic (S.take k)))) := hr2.out.fr ((Fr.refl none0 _).alloc _) (fun _ _ h => h)
        have HN := Lib.hid (news_new wr #[.int .i64 z] 3 [.int .i64 z] rfl)
        have hm1 : (partX ic (S.take k)).length + 1 = (partX ic (S.take (k + 1))).length := by rw [e1]; simp
        have HM1 := Lib.hid hm1
        clear e1 e2 hm1
        go_wp2_with (at_builtin; refine wpList_append_row rfl (.tmp 27) (.tmp 36) 38 rfl 3 i0 _ 1 8 Try.underlying38 hi hz0 hz1 hz2 rfl (by decide) (by decide) w.heap.size ro m rc (partX ic (S.take k)) rfl HR1.out wr.heap.size 0 1 1 [.int .i64 z] rfl rfl HN.out ?_ ?_ ?_ ?_)
        · first | rfl | (intro u hu; simp at hu; subst hu; rfl)
        · omega
        · first | omega | (simp; omega)
        intro ro' rc' w3 hr3 hf3 _
        have HF3 : Hid (Fr none0 w w3) := HF1.out.rowed HR1.out (Nat.le_refl _) hf3
        have HR3 := Lib.hid hr3
        have HR4 : Hid (Row w.heap.size w3 64 4 lo l lc (flat (partL ic (S.take k)))) := HR2.out.fr hf3 (HR2.out.apart HR1.out (by decide))
        clear hr3 hf3 HF1 HR1 HR2 HN HK d0 d1 d2 d3 c0
        go_wp2_with fail
        go_roundw
        case rel => exact ⟨k + 1, m + 1, l, ro', lo, rc', lc, by omega, by go_num, rfl, rfl, by have := hme.out; have := HM1.out; have := hpl.out.1; omega, hl, HF3.out, by have := hme.out; have := HM1.out; show m + 1 = _; omega, by rw [HE2.out]; exact hle.out, by rw [HE1.out]; exact HR3.out, by rw [HE2.out]; exact HR4.out⟩
        case measure => simp [intOf]; omega
      · obtain ⟨e1, e2⟩ := partX_no HK.out hq
        have HE1 := Lib.hid e1
        have HE2 := Lib.hid e2
        have hb2 : (ic == c) = false := by simpa using hq
        have HF1 : Hid (Fr none0 w (wr.alloc (.cells #[.int .u64 (im : Int), .int .i64 ic, .int .u64 (iid : Int), .int .i64 z] 64))) := hf.out.alloc _
        have HR1 : Hid (Row w.heap.size (wr.alloc (.cells #[.int .u64 (im : Int), .int .i64 ic, .int .u64 (iid : Int), .int .i64 z] 64)) 3 1 ro m rc (partX c (S.take k))) := hr.out.fr ((Fr.refl none0 _).alloc _) (fun _ _ h => h)
        have HR2 : Hid (Row w.heap.size (wr.alloc (.cells #[.int .u64 (im : Int), .int .i64 ic, .int .u64 (iid : Int), .int .i64 z] 64)) 64 4 lo l lc (flat (partL c (S.take k)))) := hr2.out.fr ((Fr.refl none0 _).alloc _) (fun _ _ h => h)
        have HN := Lib.hid (news_new wr #[.int .u64 (im : Int), .int .i64 ic, .int .u64 (iid : Int), .int .i64 z] 64 (cells ⟨im, ic, iid, .int .i64 z⟩) rfl)
        have hm1 : (partL c (S.take k)).length + 1 = (partL c (S.take (k + 1))).length := by rw [e2]; simp
        have HM1 := Lib.hid hm1
        have HFL : Hid (flat (partL c (S.take k)) ++ cells ⟨im, ic, iid, .int .i64 z⟩ = flat (partL c (S.take (k + 1)))) := by show _ = _; rw [e2]; simp [flat]
        clear e1 e2 hm1
        go_wp2_with (at_builtin; refine wpList_append_row rfl (.tmp 38) (.tmp 46) 48 rfl 64 i1 _ 4 32 Try.underlying48 gi gz0 gz1 gz2 rfl (by decide) (by decide) w.heap.size lo l lc (flat (partL c (S.take k))) rfl HR2.out wr.heap.size 0 1 1 (cells ⟨im, ic, iid, .int .i64 z⟩) rfl rfl HN.out ?_ ?_ ?_ ?_)
        · first | (intro u hu; simp [cells] at hu; rcases hu with rfl | rfl | rfl | rfl <;> rfl) | (simp [cells]; done) | (refine ⟨rfl, rfl, rfl, rfl⟩)
        · omega
        · first | omega | (simp; omega)
        intro ro' rc' w3 hr3 hf3 _
        have HF3 : Hid (Fr none0 w w3) := HF1.out.rowed HR2.out (Nat.le_refl _) hf3
        rw [HFL.out] at hr3
        have HR3 := Lib.hid hr3
        have HR4 : Hid (Row w.heap.size w3 3 1 ro m rc (partX c (S.take k))) := HR1.out.fr hf3 (HR1.out.apart HR2.out (by decide))
        clear hr3 hf3 HF1 HR1 HR2 HN HK d0 d1 d2 d3 hb2 c0
        go_wp2_with fail
        go_roundw
        case rel => exact ⟨k + 1, m, l + 1, ro, ro', rc, rc', by omega, by go_num, rfl, rfl, hm, by have := hle.out; have := HM1.out; have := hpl.out.2; omega, HF3.out, by rw [HE1.out]; exact hme.out, by have := hle.out; have := HM1.out; show l + 1 = _; omega, by rw [HE1.out]; exact HR4.out, HR3.out⟩
        case measure => simp [intOf]; omega
    · have hke : k = S.length := by omega
      have hr' := hr.out
      have hr2' := hr2.out
      have hme' := hme.out
      have hle' := hle.out
      rw [hke, List.take_length] at hr' hr2' hme' hle'
      have hblk := HW.out.blk.fr hf.out (fun h => h)
      have hput := rput (n := l) HW.out.low hblk hle' (by rw [← hle']; exact hr2'.base hB) (fun it hit => HW.out.xs it (List.mem_filter.1 hit).1) (by rw [← hle']; omega)
      have hr6 := hr'.fr (w' := wr.setCell ⟨pb, 0, none⟩ (.slice lo l lc)) ((Fr.refl (fun k => k = pb) wr).setCell (p := ⟨pb, 0, none⟩) (fun _ => rfl) _) (fun i hi e => by
        subst e
        have h1 := (hr'.tag _ hblk.lt hi).1
        have h2 := HW.out.lt
        omega)
      have HR6 := Lib.hid hr6
      have HP := Lib.hid hput
      have HME := Lib.hid hme'
      have f2 := hblk.frozen 0
      clear hr hr2 hr' hr2' hme hle hme' hle' hr6 hput hblk hke
      go_wp2_with fail
      go_ret
      refine ⟨ro, rc, lo, lc, ?_, ?_, HP.out.2, (Fy.of_below (hf.out.below (Nat.le_refl _) (fun _ h => h.elim))).trans HP.out.1⟩
      · rw [← HME.out]; rfl
      · rw [← HME.out]; exact HR6.out
end Go.Proofs.Ytceomfdppbmebaa
