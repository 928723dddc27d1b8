/- The laws ParkRises, ParkFirst, ParkFresh, by walks over the contracts. -/
import Derived.Test.YtceomfdppbmebaaW12
namespace Go.Proofs.Ytceomfdppbmebaa
open Go.RowKit

theorem gets_mem {p : It → Bool} {S : List It} {it : It} (hm : it ∈ S) (hp : p it = true) : ∃ it', gets p S = some it' := by
  rcases gets_cases p S with ⟨h1, h2, _⟩ | ⟨k, it', _, h, _⟩
  · exfalso
    unfold firstAt at h1
    cases h3 : S.findIdx? p with
    | none =>
      rw [List.findIdx?_eq_none_iff] at h3
      have := h3 it hm
      rw [hp] at this
      cases this
    | some k => rw [h3] at h1; simp at h1
  · exact ⟨it', h⟩
theorem found_mem {S : List It} (hx : ∀ it ∈ S, IsX it.x) {it : It} (hm : it ∈ S) : ∃ z : Int, foundX (.int .i64 0) (fun i => decide (i.n = it.n)) S = (.int .i64 z, 0) := by
  obtain ⟨it', hg⟩ := gets_mem (p := fun i => decide (i.n = it.n)) hm (by simp)
  rcases gets_cases (fun i => decide (i.n = it.n)) S with ⟨_, h, _⟩ | ⟨k, it2, _, h, _, _, hk, _⟩
  · rw [h] at hg; cases hg
  · obtain ⟨z, hz⟩ := hx it2 (List.mem_of_getElem? hk)
    refine ⟨z, ?_⟩
    unfold foundX
    rw [h]
    show (it2.x, _) = _
    rw [hz]
theorem numsOf_at {S : List It} {k : Nat} {it : It} (h : S[k]? = some it) : (numsOf S)[k]? = some (.int .u64 (it.n : Int)) := by
  unfold numsOf
  rw [List.getElem?_map, h]
  rfl

set_option maxRecDepth 100000 in
set_option maxHeartbeats 1000000 in
theorem ParkRises_walk (ao : Option Addr) (n c : Nat) (A : Nat → ActV) (w : World) (hA : Acts w ao n A) (hn : n ≤ 9223372036854775807) :
    Calls Try.prog 5 #[.slice ao n c] w fun e w' => e = .returned (.bool true) ∧ Below w.heap.size w w' := by
  go_enter Try.func5, Try.ntmps5
  go_wp2_with fail
  refine (played_any w ao n c A hA hn).mono ?_
  rintro e w1 ⟨pb, rb, last, S, rfl, hh, hl, hb⟩
  have HB := Lib.hid hb
  obtain ⟨⟨po, pc, hp⟩, _, hs⟩ := hh
  have HP := Lib.hid hp
  have HS := Lib.hid hs
  have hS := hp.len
  clear hb hp hs hA
  go_wp2_with fail
  refine (all_any _ _ pb last S po pc HP.out).mono ?_
  rintro e w2 ⟨ro, rc, rfl, hrow, hb2⟩
  have HB2 : Hid (Below w.heap.size w w2) := HB.out.trans (hb2.mono HB.out.size)
  have HP2 := Lib.hid (HP.out.below hb2)
  have HROW := Lib.hid hrow
  have hrc := hrow.le
  clear hrow hb2
  go_wp2_with fail
  go_loopw [2, 7, 8, 9] (fun _ s _ _ wr => ∃ k : Nat, k ≤ S.length ∧ s = .int .i64 k ∧ Hid (Below w2.heap.size w2 wr)) (fun _ s _ _ _ => S.length - (intOf s).toNat)
  case atStart => exact ⟨0, Nat.zero_le _, rfl, Below.refl _ _⟩
  case round =>
    obtain ⟨k, hk, rfl, hb⟩ := hrel
    have HPr := Lib.hid (HP2.out.below hb.out)
    have HRr := Lib.hid (HROW.out.fy (Fy.of_below (B := 0) (ts := []) hb.out) (by simp))
    by_cases hlt : k < S.length
    · obtain ⟨g, rfl⟩ := HROW.out.form (by omega)
      have hk2 : S[k]? = some S[k] := List.getElem?_eq_getElem hlt
      have d0 : wr.cell? ⟨g, k, none⟩ = some (.int .u64 ((S[k]).n : Int)) := (HRr.out.cell (by omega)).trans (numsOf_at hk2)
      obtain ⟨z, hz⟩ := found_mem HP.out.xs (List.getElem_mem hlt)
      have HZ := Lib.hid hz
      have HQ : Hid (∀ k', k' + 1 = k → ∃ m : Nat, m < (S[k]).n ∧ (numsOf S)[k']? = some (.int .u64 (m : Int))) := fun k' e => by
        have h1 : k' < S.length := by omega
        refine ⟨(S[k']).n, ?_, numsOf_at (List.getElem?_eq_getElem h1)⟩
        exact List.pairwise_iff_getElem.1 HS.out.1 k' k h1 hlt (by omega)
      clear hz hk2
      generalize (S[k]).n = v at *
      go_wp2_with fail
      refine (at_any _ _ v pb last S po pc HPr.out).mono ?_
      rw [HZ.out]
      rintro e w4 ⟨rfl, hb4⟩
      have HB4 : Hid (Below w2.heap.size w2 w4) := hb.out.trans (hb4.mono hb.out.size)
      have hr4 := HRr.out.fy (Fy.of_below (B := 0) (ts := []) hb4) (by simp)
      have HR4 := Lib.hid hr4
      have d1 : w4.cell? ⟨g, k, none⟩ = some (.int .u64 (v : Int)) := by
        have := hb4.cell (p := ⟨g, k, none⟩) (World.block_lt_of_cell? wr _ d0)
        rw [this]; exact d0
      clear hb4 hr4 d0
      by_cases hk0 : k = 0
      · subst hk0
        go_wp2_with fail
        go_quiet (fail)
        go_wp2_with fail
        go_roundw
        case rel => exact ⟨1, by omega, rfl, below_drewN HB4.out _⟩
        case measure => simp [intOf]; omega
      · obtain ⟨k', hk'⟩ : ∃ k', k' + 1 = k := ⟨k - 1, by omega⟩
        obtain ⟨m, hm, hc⟩ := HQ.out k' hk'
        have d2 : w4.cell? ⟨g, k', none⟩ = some (.int .u64 (m : Int)) := (HR4.out.cell (by omega)).trans hc
        have hpos : (0 : Int) < (k : Int) := by omega
        have hwr : IntKind.i64.wrap ((k : Int) - 1) = (k' : Int) := by rw [IntWalk.i64_in _ (by omega)]; omega
        have hlt' : k' < S.length := by omega
        have hmv : ¬ ((v : Int) ≤ (m : Int)) := by omega
        have hmv2 : ¬ v ≤ m := by omega
        have hpos2 : 0 < k := by omega
        have HK := Lib.hid hk'
        clear hc hk'
        go_wp2_with fail
        go_quiet (fail)
        go_wp2_with fail
        go_roundw
        case rel => exact ⟨k + 1, by omega, by go_num, below_drewN HB4.out _⟩
        case measure => simp [intOf]; omega
    · have hke : k = S.length := by omega
      have hle : S.length ≤ 32 := hS
      clear hke
      go_wp2_with (first | (go_at_call 11; refine (works_any _).mono ?_; rintro e w9 ⟨rfl, hb9⟩))
      go_ret
      have hb' : Below w.heap.size w wr := HB2.out.trans (hb.out.mono HB2.out.size)
      exact ⟨rfl, hb'.trans (hb9.mono hb'.size)⟩

theorem without_n {last : Nat} {S : List It} (h : Sane last S) {k : Nat} {it : It} (hk : S[k]? = some it) : ∃ k', without (fun i => decide (i.n = it.n)) S = S.eraseIdx k' ∧ k' < S.length ∧ (∀ i ∈ S.eraseIdx k', i.n ≠ it.n) := by
  rcases gets_cases (fun i => decide (i.n = it.n)) S with ⟨_, hg, _⟩ | ⟨k', it', _, _, hw, hl, hk', hp⟩
  · obtain ⟨it', hg'⟩ := gets_mem (p := fun i => decide (i.n = it.n)) (List.mem_of_getElem? hk) (by simp)
    rw [hg] at hg'; cases hg'
  · refine ⟨k', hw, hl, fun i hi e => ?_⟩
    obtain ⟨j, hj⟩ := List.mem_iff_getElem?.1 hi
    obtain ⟨hkl, hke⟩ := List.getElem?_eq_some_iff.1 hk'
    have hpn : it'.n = it.n := by simpa using hp
    rw [List.getElem?_eraseIdx] at hj
    have hpw := List.pairwise_iff_getElem.1 h.1
    split at hj
    · rename_i hjk
      obtain ⟨hjl, hje⟩ := List.getElem?_eq_some_iff.1 hj
      have := hpw j k' hjl hkl hjk
      rw [hje, hke] at this; omega
    · rename_i hjk
      obtain ⟨hjl, hje⟩ := List.getElem?_eq_some_iff.1 hj
      have := hpw k' (j + 1) hkl hjl (by omega)
      rw [hje, hke] at this; omega

set_option maxRecDepth 100000 in
set_option maxHeartbeats 1000000 in
theorem ParkFirst_walk (ao : Option Addr) (n c : Nat) (A : Nat → ActV) (conn : Int) (id : Nat) (w : World) (hA : Acts w ao n A) (hn : n ≤ 9223372036854775807) (_ : -9223372036854775808 ≤ conn) (_ : conn ≤ 9223372036854775807) (_ : id < 18446744073709551616) :
    Calls Try.prog 7 #[.slice ao n c, .int .i64 conn, .int .u64 (id : Int)] w fun e w' => e = .returned (.bool true) ∧ Below w.heap.size w w' := by
  go_enter Try.func7, Try.ntmps7
  go_wp2_with fail
  refine (played_any w ao n c A hA hn).mono ?_
  rintro e w1 ⟨pb, rb, last, S0, rfl, hh, hl, hb⟩
  have HB := Lib.hid hb
  obtain ⟨⟨po, pc, hp⟩, _, hs⟩ := hh
  have HP := Lib.hid hp
  have HS := Lib.hid hs
  have hS := hp.len
  clear hb hp hs hA
  go_wp2_with fail
  go_loopw [6, 10, 11, 12, 13, 14, 15] (fun _ s10 s11 _ _ _ _ wr => ∃ (k lst : Nat) (S : List It) (qo : Option Addr) (qc : Nat), S.length + k ≤ 32 ∧ s11 = .int .i64 k ∧ s10 = .int .u64 lst ∧ Hid (Pk w.heap.size wr pb last S qo qc) ∧ Hid (Sane last S) ∧ Hid (∀ it ∈ S, it.conn = conn ∧ it.id = id → lst < it.n) ∧ Hid (Below w.heap.size w wr)) (fun _ _ s _ _ _ _ _ => 32 - (intOf s).toNat)
  case atStart => exact ⟨0, 0, S0, po, pc, by omega, rfl, rfl, HP.out, HS.out, fun it hit _ => by have := (HS.out.2 it hit).1; omega, HB.out⟩
  case round =>
    obtain ⟨k, lst, S, qo, qc, hk, rfl, rfl, hp, hs, hq, hb⟩ := hrel
    have hk32 : k ≤ 32 := by omega
    rcases gets_cases (fun it => decide (it.conn = conn ∧ it.id = id)) S with ⟨_, hg, _⟩ | ⟨i, it, hi0, hg, _, hil, hit, hpi⟩
    · have HF : Hid (foundN (fun it => decide (it.conn = conn ∧ it.id = id)) S = (0, 7)) := by
        show _ = _
        unfold foundN; rw [hg]
      clear hg
      go_wp2_with fail
      refine (find_any _ _ conn id pb last S qo qc hp.out).mono ?_
      rw [HF.out]
      rintro e w3 ⟨rfl, hb3⟩
      have HB3 : Hid (Below w.heap.size w w3) := hb.out.trans (hb3.mono hb.out.size)
      clear hb3
      go_wp2_with (first | (go_at_call 11; refine (works_any _).mono ?_; rintro e w9 ⟨rfl, hb9⟩))
      go_ret
      exact ⟨rfl, HB3.out.trans (hb9.mono HB3.out.size)⟩
    · have HF : Hid (foundN (fun it => decide (it.conn = conn ∧ it.id = id)) S = (it.n, 0)) := by
        show _ = _
        unfold foundN; rw [hg]
      have hmem : it ∈ S := List.mem_of_getElem? hit
      have hpi2 : it.conn = conn ∧ it.id = id := by simpa using hpi
      have hgt : lst < it.n := hq.out it hmem hpi2
      obtain ⟨z, hz⟩ := found_mem hp.out.xs hmem
      have HZ := Lib.hid hz
      obtain ⟨k', hwo, hkl, hne⟩ := without_n hs.out hit
      have HWO := Lib.hid hwo
      have hlen : (S.eraseIdx k').length = S.length - 1 := List.length_eraseIdx_of_lt hkl
      -- what is found later has a greater number
      have HQ2 : Hid (∀ j ∈ S.eraseIdx k', j.conn = conn ∧ j.id = id → it.n < j.n) := fun j hj hc => by
        have hjS : j ∈ S := List.eraseIdx_subset hj
        obtain ⟨m, hm⟩ := List.mem_iff_getElem?.1 hjS
        have hni : ¬ m < i := fun hmi => by
          have h1 : S.findIdx? (fun it => decide (it.conn = conn ∧ it.id = id)) = some i := by
            rcases pos_cases (fun it => decide (it.conn = conn ∧ it.id = id)) S with ⟨h0, _⟩ | ⟨k2, it2, h0, h2, _⟩
            · rw [h0] at hi0; omega
            · rw [h2]; congr 1; rw [h0] at hi0; omega
          have h2 := (List.findIdx?_eq_some_iff_getElem.1 h1).2.2 m hmi
          obtain ⟨hml, hme⟩ := List.getElem?_eq_some_iff.1 hm
          rw [hme] at h2
          simp [hc] at h2
        have hnn := hne j hj
        obtain ⟨hml, hme⟩ := List.getElem?_eq_some_iff.1 hm
        obtain ⟨hil', hie⟩ := List.getElem?_eq_some_iff.1 hit
        rcases Nat.lt_or_ge i m with h | h
        · have := List.pairwise_iff_getElem.1 hs.out.1 i m hil' hml h
          rw [hie, hme] at this; exact this
        · have : m = i := by omega
          subst this
          rw [hme] at hie
          subst hie
          exact absurd rfl hnn
      have HS2 : Hid (Sane last (S.eraseIdx k')) := hs.out.sub (List.eraseIdx_sublist _ _)
      have hng : ¬ ((it.n : Int) ≤ (lst : Int)) := by omega
      have hng2 : ¬ it.n ≤ lst := by omega
      clear hg hz hwo hne hpi hpi2 hit hi0 hmem
      generalize it.n = v at *
      go_wp2_with fail
      refine (find_any _ _ conn id pb last S qo qc hp.out).mono ?_
      rw [HF.out]
      rintro e w3 ⟨rfl, hb3⟩
      have HB3 : Hid (Below w.heap.size w w3) := hb.out.trans (hb3.mono hb.out.size)
      have HP3 := Lib.hid (hp.out.below hb3)
      clear hb3
      go_wp2_with fail
      refine (take_any _ _ v pb last S qo qc HP3.out).mono ?_
      rw [HZ.out, HWO.out]
      rintro e w4 ⟨qo4, qc4, rfl, hp4, hf4⟩
      have HB4 : Hid (Below w.heap.size w w4) := HB3.out.trans (hf4.below HB3.out.size)
      have HP4 := Lib.hid hp4
      have hl2 : (S.eraseIdx k').length + (k + 1) ≤ 32 := by omega
      clear hp4 hf4 hlen
      generalize S.eraseIdx k' = S2 at *
      go_wp2_with fail
      go_roundw
      case rel => exact ⟨k + 1, v, S2, qo4, qc4, hl2, by go_num, rfl, HP4.out, HS2.out, HQ2.out, HB4.out⟩
      case measure => simp [intOf]; omega

set_option maxRecDepth 100000 in
set_option maxHeartbeats 1000000 in
theorem ParkFresh_walk (ao : Option Addr) (n c : Nat) (A : Nat → ActV) (w : World) (hA : Acts w ao n A) (hn : n ≤ 9223372036854775807) :
    Calls Try.prog 8 #[.slice ao n c] w fun e w' => e = .returned (.bool true) ∧ Below w.heap.size w w' := by
  go_enter Try.func8, Try.ntmps8
  go_wp2_with fail
  refine (played_any w ao n c A hA hn).mono ?_
  rintro e w1 ⟨pb, rb, last, S, rfl, hh, hl, hb⟩
  have HB := Lib.hid hb
  have HH := Lib.hid hh
  obtain ⟨⟨po, pc, hp⟩, _, hs⟩ := hh
  have HP := Lib.hid hp
  have hS := hp.len
  clear hb hp hs hA
  go_wp2_with fail
  refine (all_any _ _ pb last S po pc HP.out).mono ?_
  rintro e w2 ⟨ro, rc, rfl, hrow, hb2⟩
  have HB2 := Lib.hid hb2
  have HROW := Lib.hid hrow
  have hrc := hrow.le
  clear hrow hb2
  go_wp2_with fail
  go_loopw [7] (fun s wr => ∃ (k : Nat) (xs : List Value), k ≤ S.length ∧ s = .int .i64 k ∧ Hid (Below w1.heap.size w1 wr) ∧ Hid (Row w1.heap.size wr 29 1 ro S.length rc xs)) (fun s _ => S.length - (intOf s).toNat)
  case atStart => exact ⟨0, _, Nat.zero_le _, rfl, HB2.out, HROW.out⟩
  case round =>
    obtain ⟨k, xs, hk, rfl, hb, hr⟩ := hrel
    by_cases hlt : k < S.length
    · obtain ⟨g, rfl⟩ := HROW.out.form (by omega)
      have hxl := hr.out.len
      have d0 : wr.cell? ⟨g, k, none⟩ = some (xs[k]'(by omega)) := (hr.out.cell (by omega)).trans (List.getElem?_eq_getElem _)
      have f0 := hr.out.frozen k
      have HR2 := Lib.hid (hr.out.stored k (.int .u64 0))
      have HB3 : Hid (Below w1.heap.size w1 (wr.setCell ⟨g, k, none⟩ (.int .u64 0))) := hb.out.trans ((Fr.refl (fun i => i = g) wr).setCell (p := ⟨g, k, none⟩) (fun _ => rfl) _ |>.below hb.out.size (fun i hi => by subst hi; exact hr.out.block.1))
      go_wp2_with fail
      go_roundw
      case rel => exact ⟨k + 1, _, by omega, by go_num, HB3.out, HR2.out⟩
      case measure => simp [intOf]; omega
    · have HH3 := Lib.hid (HH.out.below hb.out)
      have HB3 : Hid (Below w.heap.size w wr) := HB.out.trans (hb.out.mono HB.out.size)
      obtain ⟨⟨uo, uc, hp⟩, ⟨vo, vc, hr⟩, _⟩ := HH3.out
      have HP3 := Lib.hid hp
      have HR3 := Lib.hid hr
      clear hp hr
      go_wp2_with fail
      refine (all_any _ _ pb last S uo uc HP3.out).mono ?_
      rintro e w4 ⟨so, sc, rfl, hrow, hb4⟩
      have HROW4 := Lib.hid hrow
      have HB4 := Lib.hid hb4
      clear hrow hb4
      go_wp2_with fail
      refine (rall_any _ _ rb last S vo vc (HR3.out.below HB4.out)).mono ?_
      rintro e w5 ⟨to_, tc, rfl, hrow, hb5⟩
      have HROW5 := Lib.hid hrow
      have HROW6 := Lib.hid (HROW4.out.fy (Fy.of_below (B := 0) (ts := []) hb5) (by simp))
      have HB5 : Hid (Below wr.heap.size wr w5) := HB4.out.trans (hb5.mono HB4.out.size)
      clear hrow hb5
      go_wp2_with fail
      refine (words_same _ _ _ so to_ S.length sc tc (numsOf S) HROW6.out HROW5.out (numsOf_u64 S) (by omega)).mono ?_
      rintro e w6 ⟨rfl, hb6⟩
      have hb7 : Below wr.heap.size wr w6 := HB5.out.trans (hb6.mono HB5.out.size)
      have HB6 : Hid (Below w.heap.size w w6) := HB3.out.trans (hb7.mono HB3.out.size)
      clear hb6 hb7
      go_wp2_with (first | (go_at_call 11; refine (works_any _).mono ?_; rintro e w9 ⟨rfl, hb9⟩))
      go_ret
      exact ⟨rfl, HB6.out.trans (hb9.mono HB6.out.size)⟩
end Go.Proofs.Ytceomfdppbmebaa
