/- Contract of played, by a walk. -/
import Derived.Test.YteglklcaaicjjaaW21
import Derived.Test.YteglklcaaicjjaaW5
import Derived.Test.YteglklcaaicjjaaW7
import Derived.Deep.RegionHeld3
namespace Go.Proofs.Yteglklcaaicjjaa
open Go.RowKit Go.Maps

/-- BOTH WINDOWS. -/
structure Env (B : Nat) (w : World) (pb mb rb : Nat) (most : Int) (n1 : Nat) (S : List Nat) (n2 : Nat) (T : List Nat) : Prop where
  win : Win w pb mb most n1 S
  ref : RfA B w rb most n2 T
  lp : B ≤ pb
  lm : B ≤ mb
  hB : B ≤ w.heap.size
section
variable {B : Nat} {w w' : World} {pb mb rb : Nat} {most : Int} {n1 : Nat} {S : List Nat} {n2 : Nat} {T : List Nat}
theorem Env.below (h : Env B w pb mb rb most n1 S n2 T) (hb : Below w.heap.size w w') : Env B w' pb mb rb most n1 S n2 T :=
  ⟨h.win.fr (Fr.of_below (T := none0) hb) (fun h => h) (fun h => h), h.ref.below hb, h.lp, h.lm, Nat.le_trans h.hB hb.size⟩
theorem Env.kstep {n' : Nat} {S' : List Nat} (h : Env B w pb mb rb most n1 S n2 T) (hw : Win w' pb mb most n' S') (hf : Fr (Of pb mb) w w') : Env B w' pb mb rb most n' S' n2 T ∧ Below B w w' :=
  ⟨⟨hw, h.ref.step h.win hf, h.lp, h.lm, Nat.le_trans h.hB hf.size⟩, hf.below h.hB (fun j hj => by
    have h1 := h.lp
    have h2 := h.lm
    rcases hj with e | e <;> omega)⟩
theorem Env.dstep {n' : Nat} {T' : List Nat} (h : Env B w pb mb rb most n1 S n2 T) (hs : DStep B rb most n' T' w w') : Env B w' pb mb rb most n1 S n' T' ∧ Below B w w' :=
  ⟨⟨hs.win _ _ _ _ _ h.win, hs.ref, h.lp, h.lm, Nat.le_trans h.hB hs.bel.size⟩, hs.bel⟩
end
def PlayedPost (most : Int) (B : Nat) (w : World) (e : Ending) (w' : World) : Prop :=
  ∃ pb mb rb next S, e = .returned (.tuple #[.pointer (some ⟨pb, 0, none⟩), .pointer (some ⟨rb, 0, none⟩), .bool true]) ∧ Env B w' pb mb rb most next S next S ∧ next ≤ 6401 ∧ Below B w w'

theorem played_bad (most : Int) (ao : Option Addr) (n c : Nat) (w : World) (hm : most < 1 ∨ 64 < most) :
    Calls Try.prog 16 #[.int .i64 most, .slice ao n c] w fun e w' => e = .returned (.tuple #[.pointer none, .pointer none, .bool true]) ∧ w = w' := by
  go_enter Try.func16, Try.ntmps16
  go_wp2_with fail
  refine (new_bad most _ hm).mono ?_
  rintro e w1 ⟨rfl, rfl⟩
  go_wp2_with fail
  refine (rnew_bad most _ hm).mono ?_
  rintro e w1 ⟨rfl, rfl⟩
  clear hm
  go_wp2_with fail
  go_ret3
  exact ⟨rfl, rfl⟩

set_option maxRecDepth 100000 in
set_option maxHeartbeats 8000000 in
theorem played_good (most : Int) (ao : Option Addr) (n c : Nat) (A : Nat → ActV) (w : World) (hA : Acts w ao n A) (_ : n ≤ 9223372036854775807) (h1 : 1 ≤ most) (h2 : most ≤ 64) :
    Calls Try.prog 16 #[.int .i64 most, .slice ao n c] w (PlayedPost most w.heap.size w) := by
  have HA := Lib.hid hA
  clear hA
  go_enter Try.func16, Try.ntmps16
  go_wp2_with fail
  refine (new_good most _ h1 h2).mono ?_
  rintro e w1 ⟨pb, mb, rfl, hw1, hpb, hmb, hb1⟩
  have HW1 := Lib.hid hw1
  have HB1 := Lib.hid hb1
  clear hw1 hb1
  go_wp2_with fail
  refine (rnew_good most w1 h1 h2).mono ?_
  rintro e w2 ⟨rb, rfl, hr2, hb2⟩
  have HH : Hid (Env w.heap.size w2 pb mb rb most 1 [0] 1 [0]) := by
    obtain ⟨lo, lc, h⟩ := hr2
    exact ⟨HW1.out.fr (Fr.of_below (T := none0) hb2) (fun h => h) (fun h => h), ⟨lo, lc, Nat.le_trans HB1.out.size h.low, h.blk, h.row.base HB1.out.size⟩, hpb, hmb, Nat.le_trans HB1.out.size hb2.size⟩
  have HB2 : Hid (Below w.heap.size w w2) := HB1.out.trans (hb2.mono HB1.out.size)
  clear hr2 hb2 HB1 HW1 hpb hmb
  go_wp2_with fail
  go_loopw [4, 5, 6, 11] (fun _ _ _ s wr => ∃ (k next : Nat) (S : List Nat), k ≤ n ∧ k ≤ 100 ∧ s = .int .i64 k ∧ next ≤ 1 + 64 * k ∧ Hid (Env w.heap.size wr pb mb rb most next S next S) ∧ Hid (Below w.heap.size w wr)) (fun _ _ _ s _ => n - (intOf s).toNat)
  case atStart => exact ⟨0, 1, [0], Nat.zero_le _, Nat.zero_le _, rfl, by omega, HH.out, HB2.out⟩
  case round =>
    obtain ⟨k, next, S, hk, hk2, rfl, hnx, hh, hb⟩ := hrel
    by_cases hlt : k < n ∧ k < 100
    · obtain ⟨hl1, hl2⟩ := hlt
      obtain ⟨b, o, rfl, hbl, ha0, hok⟩ := HA.out k hl1
      have HFR : Hid (∀ w', Below w.heap.size w w' → ActAt w' b (o + k * 4) (A k)) := fun w' hb => ha0.below hb hbl
      obtain ⟨o1, o2, o3, o4, o5⟩ := hok
      clear ha0
      generalize A k = q at *
      obtain ⟨g, wt, id, ch⟩ := q
      dsimp only at o1 o2 o3 o4 o5
      have hi1 : (0 : Int) ≤ (k : Int) := by omega
      have hi2 : (k : Int) < (n : Int) := by omega
      have HBd : Hid (Below w.heap.size w wr.drew) := hb.out.drew
      have HD3 : Hid (Env w.heap.size wr.drew pb mb rb most next S next S) := hh.out.below (Below.refl _ _).drew
      have hln := hh.out.win.len
      have hm64 := hh.out.win.m2
      have hlen64 : S.length ≤ 64 := by omega
      cases g
      · obtain ⟨er, her⟩ : ∃ z : Int, takeE S id ch = z := ⟨_, rfl⟩
        obtain ⟨S', hnew⟩ : ∃ z : List Nat, takeS S id ch = z := ⟨_, rfl⟩
        have HER := Lib.hid her
        have HNEW := Lib.hid hnew
        clear her hnew
        have hc3 := HFR.out wr.drew HBd.out
        go_wp2_with fail
        refine wp_region_noPanic ?_
        refine wp_region_held_drew (S := fun w' => w'.cell? ⟨b, o + k * 4, none⟩ = some (.bool false) ∧ w'.cell? ⟨b, o + k * 4 + 1, none⟩ = some (.int .i64 wt) ∧ w'.cell? ⟨b, o + k * 4 + 2, none⟩ = some (.int .u64 (id : Int)) ∧ w'.cell? ⟨b, o + k * 4 + 3, none⟩ = some (.int .i64 ch)) (by kernel_rfl) ?_ (fun hHeld => ?_)
        · exact ⟨hc3.k0, hc3.k1, hc3.k2, hc3.k3⟩
        refine wpAnyH_take (i := 0) (v := .slice (some ⟨b, o, none⟩) n c) rfl (by kernel_rfl) (by kernel_rfl) (by kernel_rfl) (fun _ _ _ h => (h : False).elim) (Or.inl ⟨by rfl, ?_⟩) hHeld ?_
        · intro w hSw
          try dsimp only at hSw
          go_simp
        change wpAnyH _ _ _ _ _ _ _ (Act.put _ (some 46) _) _
        try simp only [Act.put, List.setIfInBounds_toArray, List.set_cons_zero, List.set_cons_succ]
        refine wpAnyH_take (i := 1) (v := .int .i64 (k : Int)) rfl (by kernel_rfl) (by kernel_rfl) (by kernel_rfl) (fun _ _ _ h => (h : False).elim) (Or.inl ⟨by rfl, ?_⟩) hHeld ?_
        · intro w hSw
          try dsimp only at hSw
          go_simp
        change wpAnyH _ _ _ _ _ _ _ (Act.put _ (some 47) _) _
        try simp only [Act.put, List.setIfInBounds_toArray, List.set_cons_zero, List.set_cons_succ]
        refine wpAnyH_take (i := 2) (v := .pointer (some ⟨b, o + k * 4, none⟩)) rfl (by kernel_rfl) (by kernel_rfl) (by kernel_rfl) (fun _ _ _ h => (h : False).elim) (Or.inl ⟨by rfl, ?_⟩) hHeld ?_
        · intro w hSw
          try dsimp only at hSw
          go_simp
        change wpAnyH _ _ _ _ _ _ _ (Act.put _ (some 48) _) _
        try simp only [Act.put, List.setIfInBounds_toArray, List.set_cons_zero, List.set_cons_succ]
        refine wpAnyH_take (i := 3) (v := .pointer (some ⟨b, o + k * 4, none⟩)) rfl (by kernel_rfl) (by kernel_rfl) (by kernel_rfl) (fun _ _ _ h => (h : False).elim) (Or.inl ⟨by rfl, ?_⟩) hHeld ?_
        · intro w hSw
          try dsimp only at hSw
          go_simp
        change wpAnyH _ _ _ _ _ _ _ (Act.put _ (some 49) _) _
        try simp only [Act.put, List.setIfInBounds_toArray, List.set_cons_zero, List.set_cons_succ]
        refine wpAnyH_take (i := 4) (v := .bool false) rfl (by kernel_rfl) (by kernel_rfl) (by kernel_rfl) (fun _ _ _ h => (h : False).elim) (Or.inl ⟨by rfl, ?_⟩) hHeld ?_
        · intro w hSw
          try dsimp only at hSw
          go_simp
        change wpAnyH _ _ _ _ _ _ _ (Act.put _ (some 50) _) _
        try simp only [Act.put, List.setIfInBounds_toArray, List.set_cons_zero, List.set_cons_succ]
        refine wpAnyH_take (i := 5) (v := .bool false) rfl (by kernel_rfl) (by kernel_rfl) (by kernel_rfl) (fun _ _ _ h => (h : False).elim) (Or.inl ⟨by rfl, ?_⟩) hHeld ?_
        · intro w hSw
          try dsimp only at hSw
          go_simp
        change wpAnyH _ _ _ _ _ _ _ (Act.put _ (some 51) _) _
        try simp only [Act.put, List.setIfInBounds_toArray, List.set_cons_zero, List.set_cons_succ]
        refine wpAnyH_take (i := 6) (v := undef) rfl (by kernel_rfl) (by kernel_rfl) (by kernel_rfl) (fun _ _ _ h => (h : False).elim) (Or.inr ⟨by rfl, rfl⟩) hHeld ?_
        change wpAnyH _ _ _ _ _ _ _ (Act.put _ (some 52) _) _
        try simp only [Act.put, List.setIfInBounds_toArray, List.set_cons_zero, List.set_cons_succ]
        refine wpAnyH_take (i := 7) (v := undef) rfl (by kernel_rfl) (by kernel_rfl) (by kernel_rfl) (fun _ _ _ h => (h : False).elim) (Or.inr ⟨by rfl, rfl⟩) hHeld ?_
        change wpAnyH _ _ _ _ _ _ _ (Act.put _ (some 53) _) _
        try simp only [Act.put, List.setIfInBounds_toArray, List.set_cons_zero, List.set_cons_succ]
        refine wpAnyH_take (i := 8) (v := undef) rfl (by kernel_rfl) (by kernel_rfl) (by kernel_rfl) (fun _ _ _ h => (h : False).elim) (Or.inr ⟨by rfl, rfl⟩) hHeld ?_
        change wpAnyH _ _ _ _ _ _ _ (Act.put _ (some 54) _) _
        try simp only [Act.put, List.setIfInBounds_toArray, List.set_cons_zero, List.set_cons_succ]
        refine wpAnyH_take (i := 9) (v := undef) rfl (by kernel_rfl) (by kernel_rfl) (by kernel_rfl) (fun _ _ _ h => (h : False).elim) (Or.inr ⟨by rfl, rfl⟩) hHeld ?_
        change wpAnyH _ _ _ _ _ _ _ (Act.put _ (some 55) _) _
        try simp only [Act.put, List.setIfInBounds_toArray, List.set_cons_zero, List.set_cons_succ]
        refine wpAnyH_take (i := 10) (v := undef) rfl (by kernel_rfl) (by kernel_rfl) (by kernel_rfl) (fun _ _ _ h => (h : False).elim) (Or.inr ⟨by rfl, rfl⟩) hHeld ?_
        change wpAnyH _ _ _ _ _ _ _ (Act.put _ (some 56) _) _
        try simp only [Act.put, List.setIfInBounds_toArray, List.set_cons_zero, List.set_cons_succ]
        refine wpAnyH_take (i := 11) (v := undef) rfl (by kernel_rfl) (by kernel_rfl) (by kernel_rfl) (fun _ _ _ h => (h : False).elim) (Or.inr ⟨by rfl, rfl⟩) hHeld ?_
        change wpAnyH _ _ _ _ _ _ _ (Act.put _ (some 57) _) _
        try simp only [Act.put, List.setIfInBounds_toArray, List.set_cons_zero, List.set_cons_succ]
        refine wpAnyH_take (i := 12) (v := undef) rfl (by kernel_rfl) (by kernel_rfl) (by kernel_rfl) (fun _ _ _ h => (h : False).elim) (Or.inr ⟨by rfl, rfl⟩) hHeld ?_
        change wpAnyH _ _ _ _ _ _ _ (Act.put _ (some 58) _) _
        try simp only [Act.put, List.setIfInBounds_toArray, List.set_cons_zero, List.set_cons_succ]
        refine wpAnyH_take (i := 13) (v := undef) rfl (by kernel_rfl) (by kernel_rfl) (by kernel_rfl) (fun _ _ _ h => (h : False).elim) (Or.inr ⟨by rfl, rfl⟩) hHeld ?_
        change wpAnyH _ _ _ _ _ _ _ (Act.put _ (some 59) _) _
        try simp only [Act.put, List.setIfInBounds_toArray, List.set_cons_zero, List.set_cons_succ]
        refine wpAnyH_take (i := 14) (v := undef) rfl (by kernel_rfl) (by kernel_rfl) (by kernel_rfl) (fun _ _ _ h => (h : False).elim) (Or.inr ⟨by rfl, rfl⟩) hHeld ?_
        change wpAnyH _ _ _ _ _ _ _ (Act.put _ (some 60) _) _
        try simp only [Act.put, List.setIfInBounds_toArray, List.set_cons_zero, List.set_cons_succ]
        refine wpAnyH_take (i := 15) (v := undef) rfl (by kernel_rfl) (by kernel_rfl) (by kernel_rfl) (fun _ _ _ h => (h : False).elim) (Or.inr ⟨by rfl, rfl⟩) hHeld ?_
        change wpAnyH _ _ _ _ _ _ _ (Act.put _ (some 61) _) _
        try simp only [Act.put, List.setIfInBounds_toArray, List.set_cons_zero, List.set_cons_succ]
        refine wpAnyH_take (i := 16) (v := undef) rfl (by kernel_rfl) (by kernel_rfl) (by kernel_rfl) (fun _ _ _ h => (h : False).elim) (Or.inr ⟨by rfl, rfl⟩) hHeld ?_
        change wpAnyH _ _ _ _ _ _ _ (Act.put _ (some 62) _) _
        try simp only [Act.put, List.setIfInBounds_toArray, List.set_cons_zero, List.set_cons_succ]
        refine wpAnyH_take (i := 17) (v := undef) rfl (by kernel_rfl) (by kernel_rfl) (by kernel_rfl) (fun _ _ _ h => (h : False).elim) (Or.inr ⟨by rfl, rfl⟩) hHeld ?_
        change wpAnyH _ _ _ _ _ _ _ (Act.put _ (some 63) _) _
        try simp only [Act.put, List.setIfInBounds_toArray, List.set_cons_zero, List.set_cons_succ]
        refine wpAnyH_take (i := 18) (v := undef) rfl (by kernel_rfl) (by kernel_rfl) (by kernel_rfl) (fun _ _ _ h => (h : False).elim) (Or.inr ⟨by rfl, rfl⟩) hHeld ?_
        change wpAnyH _ _ _ _ _ _ _ (Act.put _ (some 64) _) _
        try simp only [Act.put, List.setIfInBounds_toArray, List.set_cons_zero, List.set_cons_succ]
        refine wpAnyH_take (i := 19) (v := undef) rfl (by kernel_rfl) (by kernel_rfl) (by kernel_rfl) (fun _ _ _ h => (h : False).elim) (Or.inr ⟨by rfl, rfl⟩) hHeld ?_
        change wpAnyH _ _ _ _ _ _ _ (Act.put _ (some 65) _) _
        try simp only [Act.put, List.setIfInBounds_toArray, List.set_cons_zero, List.set_cons_succ]
        refine wpAnyH_take (i := 20) (v := undef) rfl (by kernel_rfl) (by kernel_rfl) (by kernel_rfl) (fun _ _ _ h => (h : False).elim) (Or.inr ⟨by rfl, rfl⟩) hHeld ?_
        change wpAnyH _ _ _ _ _ _ _ (Act.put _ (some 66) _) _
        try simp only [Act.put, List.setIfInBounds_toArray, List.set_cons_zero, List.set_cons_succ]
        refine wpAnyH_take (i := 21) (v := .bool false) rfl (by kernel_rfl) (by kernel_rfl) (by kernel_rfl) (fun _ _ _ h => (h : False).elim) (Or.inl ⟨by rfl, ?_⟩) hHeld ?_
        · intro w hSw
          try dsimp only at hSw
          go_simp
        change wpAnyH _ _ _ _ _ _ _ (Act.put _ (some 67) _) _
        try simp only [Act.put, List.setIfInBounds_toArray, List.set_cons_zero, List.set_cons_succ]
        refine wpAnyH_take (i := 22) (v := .bool false) rfl (by kernel_rfl) (by kernel_rfl) (by kernel_rfl) (fun _ _ _ h => (h : False).elim) (Or.inl ⟨by rfl, ?_⟩) hHeld ?_
        · intro w hSw
          try dsimp only at hSw
          go_simp
        change wpAnyH _ _ _ _ _ _ _ (Act.put _ (some 68) _) _
        try simp only [Act.put, List.setIfInBounds_toArray, List.set_cons_zero, List.set_cons_succ]
        refine wpAnyH_take (i := 23) (v := .slice (some ⟨b, o, none⟩) n c) rfl (by kernel_rfl) (by kernel_rfl) (by kernel_rfl) (fun _ _ _ h => (h : False).elim) (Or.inl ⟨by rfl, ?_⟩) hHeld ?_
        · intro w hSw
          try dsimp only at hSw
          go_simp
        change wpAnyH _ _ _ _ _ _ _ (Act.put _ (some 69) _) _
        try simp only [Act.put, List.setIfInBounds_toArray, List.set_cons_zero, List.set_cons_succ]
        refine wpAnyH_take (i := 24) (v := .int .i64 (k : Int)) rfl (by kernel_rfl) (by kernel_rfl) (by kernel_rfl) (fun _ _ _ h => (h : False).elim) (Or.inl ⟨by rfl, ?_⟩) hHeld ?_
        · intro w hSw
          try dsimp only at hSw
          go_simp
        change wpAnyH _ _ _ _ _ _ _ (Act.put _ (some 70) _) _
        try simp only [Act.put, List.setIfInBounds_toArray, List.set_cons_zero, List.set_cons_succ]
        refine wpAnyH_take (i := 25) (v := .pointer (some ⟨b, o + k * 4, none⟩)) rfl (by kernel_rfl) (by kernel_rfl) (by kernel_rfl) (fun _ _ _ h => (h : False).elim) (Or.inl ⟨by rfl, ?_⟩) hHeld ?_
        · intro w hSw
          try dsimp only at hSw
          go_simp
        change wpAnyH _ _ _ _ _ _ _ (Act.put _ (some 71) _) _
        try simp only [Act.put, List.setIfInBounds_toArray, List.set_cons_zero, List.set_cons_succ]
        refine wpAnyH_take (i := 26) (v := .pointer (some ⟨b, o + k * 4, none⟩)) rfl (by kernel_rfl) (by kernel_rfl) (by kernel_rfl) (fun _ _ _ h => (h : False).elim) (Or.inl ⟨by rfl, ?_⟩) hHeld ?_
        · intro w hSw
          try dsimp only at hSw
          go_simp
        change wpAnyH _ _ _ _ _ _ _ (Act.put _ (some 72) _) _
        try simp only [Act.put, List.setIfInBounds_toArray, List.set_cons_zero, List.set_cons_succ]
        refine wpAnyH_take (i := 27) (v := .bool false) rfl (by kernel_rfl) (by kernel_rfl) (by kernel_rfl) (fun _ _ _ h => (h : False).elim) (Or.inl ⟨by rfl, ?_⟩) hHeld ?_
        · intro w hSw
          try dsimp only at hSw
          go_simp
        change wpAnyH _ _ _ _ _ _ _ (Act.put _ (some 73) _) _
        try simp only [Act.put, List.setIfInBounds_toArray, List.set_cons_zero, List.set_cons_succ]
        refine wpAnyH_take (i := 28) (v := .bool true) rfl (by kernel_rfl) (by kernel_rfl) (by kernel_rfl) (fun _ _ _ h => (h : False).elim) (Or.inl ⟨by rfl, ?_⟩) hHeld ?_
        · intro w hSw
          try dsimp only at hSw
          go_simp
        change wpAnyH _ _ _ _ _ _ _ (Act.put _ (some 74) _) _
        try simp only [Act.put, List.setIfInBounds_toArray, List.set_cons_zero, List.set_cons_succ]
        refine wpAnyH_take (i := 29) (v := .bool true) rfl (by kernel_rfl) (by kernel_rfl) (by kernel_rfl) (fun _ _ _ h => (h : False).elim) (Or.inl ⟨by rfl, ?_⟩) hHeld ?_
        · intro w hSw
          try dsimp only at hSw
          go_simp
        change wpAnyH _ _ _ _ _ _ _ (Act.put _ (some 75) _) _
        try simp only [Act.put, List.setIfInBounds_toArray, List.set_cons_zero, List.set_cons_succ]
        refine wpAnyH_take (i := 30) (v := .pointer (some ⟨pb, 0, none⟩)) rfl (by kernel_rfl) (by kernel_rfl) (by kernel_rfl) (fun _ _ _ h => (h : False).elim) (Or.inl ⟨by rfl, ?_⟩) hHeld ?_
        · intro w hSw
          try dsimp only at hSw
          go_simp
        change wpAnyH _ _ _ _ _ _ _ (Act.put _ (some 76) _) _
        try simp only [Act.put, List.setIfInBounds_toArray, List.set_cons_zero, List.set_cons_succ]
        refine wpAnyH_take (i := 31) (v := .slice (some ⟨b, o, none⟩) n c) rfl (by kernel_rfl) (by kernel_rfl) (by kernel_rfl) (fun _ _ _ h => (h : False).elim) (Or.inl ⟨by rfl, ?_⟩) hHeld ?_
        · intro w hSw
          try dsimp only at hSw
          go_simp
        change wpAnyH _ _ _ _ _ _ _ (Act.put _ (some 77) _) _
        try simp only [Act.put, List.setIfInBounds_toArray, List.set_cons_zero, List.set_cons_succ]
        refine wpAnyH_take (i := 32) (v := .int .i64 (k : Int)) rfl (by kernel_rfl) (by kernel_rfl) (by kernel_rfl) (fun _ _ _ h => (h : False).elim) (Or.inl ⟨by rfl, ?_⟩) hHeld ?_
        · intro w hSw
          try dsimp only at hSw
          go_simp
        change wpAnyH _ _ _ _ _ _ _ (Act.put _ (some 78) _) _
        try simp only [Act.put, List.setIfInBounds_toArray, List.set_cons_zero, List.set_cons_succ]
        refine wpAnyH_take (i := 33) (v := .pointer (some ⟨b, o + k * 4, none⟩)) rfl (by kernel_rfl) (by kernel_rfl) (by kernel_rfl) (fun _ _ _ h => (h : False).elim) (Or.inl ⟨by rfl, ?_⟩) hHeld ?_
        · intro w hSw
          try dsimp only at hSw
          go_simp
        change wpAnyH _ _ _ _ _ _ _ (Act.put _ (some 79) _) _
        try simp only [Act.put, List.setIfInBounds_toArray, List.set_cons_zero, List.set_cons_succ]
        refine wpAnyH_take (i := 34) (v := .pointer (some ⟨b, o + k * 4 + 2, none⟩)) rfl (by kernel_rfl) (by kernel_rfl) (by kernel_rfl) (fun _ _ _ h => (h : False).elim) (Or.inl ⟨by rfl, ?_⟩) hHeld ?_
        · intro w hSw
          try dsimp only at hSw
          go_simp
        change wpAnyH _ _ _ _ _ _ _ (Act.put _ (some 80) _) _
        try simp only [Act.put, List.setIfInBounds_toArray, List.set_cons_zero, List.set_cons_succ]
        refine wpAnyH_take (i := 35) (v := .int .u64 (id : Int)) rfl (by kernel_rfl) (by kernel_rfl) (by kernel_rfl) (fun _ _ _ h => (h : False).elim) (Or.inl ⟨by rfl, ?_⟩) hHeld ?_
        · intro w hSw
          try dsimp only at hSw
          go_simp
        change wpAnyH _ _ _ _ _ _ _ (Act.put _ (some 81) _) _
        try simp only [Act.put, List.setIfInBounds_toArray, List.set_cons_zero, List.set_cons_succ]
        refine wpAnyH_take (i := 36) (v := .slice (some ⟨b, o, none⟩) n c) rfl (by kernel_rfl) (by kernel_rfl) (by kernel_rfl) (fun _ _ _ h => (h : False).elim) (Or.inl ⟨by rfl, ?_⟩) hHeld ?_
        · intro w hSw
          try dsimp only at hSw
          go_simp
        change wpAnyH _ _ _ _ _ _ _ (Act.put _ (some 82) _) _
        try simp only [Act.put, List.setIfInBounds_toArray, List.set_cons_zero, List.set_cons_succ]
        refine wpAnyH_take (i := 37) (v := .int .i64 (k : Int)) rfl (by kernel_rfl) (by kernel_rfl) (by kernel_rfl) (fun _ _ _ h => (h : False).elim) (Or.inl ⟨by rfl, ?_⟩) hHeld ?_
        · intro w hSw
          try dsimp only at hSw
          go_simp
        change wpAnyH _ _ _ _ _ _ _ (Act.put _ (some 83) _) _
        try simp only [Act.put, List.setIfInBounds_toArray, List.set_cons_zero, List.set_cons_succ]
        refine wpAnyH_take (i := 38) (v := .pointer (some ⟨b, o + k * 4, none⟩)) rfl (by kernel_rfl) (by kernel_rfl) (by kernel_rfl) (fun _ _ _ h => (h : False).elim) (Or.inl ⟨by rfl, ?_⟩) hHeld ?_
        · intro w hSw
          try dsimp only at hSw
          go_simp
        change wpAnyH _ _ _ _ _ _ _ (Act.put _ (some 84) _) _
        try simp only [Act.put, List.setIfInBounds_toArray, List.set_cons_zero, List.set_cons_succ]
        refine wpAnyH_take (i := 39) (v := .pointer (some ⟨b, o + k * 4 + 3, none⟩)) rfl (by kernel_rfl) (by kernel_rfl) (by kernel_rfl) (fun _ _ _ h => (h : False).elim) (Or.inl ⟨by rfl, ?_⟩) hHeld ?_
        · intro w hSw
          try dsimp only at hSw
          go_simp
        change wpAnyH _ _ _ _ _ _ _ (Act.put _ (some 85) _) _
        try simp only [Act.put, List.setIfInBounds_toArray, List.set_cons_zero, List.set_cons_succ]
        refine wpAnyH_take (i := 40) (v := .int .i64 ch) rfl (by kernel_rfl) (by kernel_rfl) (by kernel_rfl) (fun _ _ _ h => (h : False).elim) (Or.inl ⟨by rfl, ?_⟩) hHeld ?_
        · intro w hSw
          try dsimp only at hSw
          go_simp
        change wpAnyH _ _ _ _ _ _ _ (Act.put _ (some 86) _) _
        try simp only [Act.put, List.setIfInBounds_toArray, List.set_cons_zero, List.set_cons_succ]
        refine wpAnyH_take (i := 42) (v := .pointer (some ⟨rb, 0, none⟩)) rfl (by kernel_rfl) (by kernel_rfl) (by kernel_rfl) (fun _ _ _ h => (h : False).elim) (Or.inl ⟨by rfl, ?_⟩) hHeld ?_
        · intro w hSw
          try dsimp only at hSw
          go_simp
        change wpAnyH _ _ _ _ _ _ _ (Act.put _ (some 88) _) _
        try simp only [Act.put, List.setIfInBounds_toArray, List.set_cons_zero, List.set_cons_succ]
        refine wpAnyH_take (i := 43) (v := .slice (some ⟨b, o, none⟩) n c) rfl (by kernel_rfl) (by kernel_rfl) (by kernel_rfl) (fun _ _ _ h => (h : False).elim) (Or.inl ⟨by rfl, ?_⟩) hHeld ?_
        · intro w hSw
          try dsimp only at hSw
          go_simp
        change wpAnyH _ _ _ _ _ _ _ (Act.put _ (some 89) _) _
        try simp only [Act.put, List.setIfInBounds_toArray, List.set_cons_zero, List.set_cons_succ]
        refine wpAnyH_take (i := 44) (v := .int .i64 (k : Int)) rfl (by kernel_rfl) (by kernel_rfl) (by kernel_rfl) (fun _ _ _ h => (h : False).elim) (Or.inl ⟨by rfl, ?_⟩) hHeld ?_
        · intro w hSw
          try dsimp only at hSw
          go_simp
        change wpAnyH _ _ _ _ _ _ _ (Act.put _ (some 90) _) _
        try simp only [Act.put, List.setIfInBounds_toArray, List.set_cons_zero, List.set_cons_succ]
        refine wpAnyH_take (i := 45) (v := .pointer (some ⟨b, o + k * 4, none⟩)) rfl (by kernel_rfl) (by kernel_rfl) (by kernel_rfl) (fun _ _ _ h => (h : False).elim) (Or.inl ⟨by rfl, ?_⟩) hHeld ?_
        · intro w hSw
          try dsimp only at hSw
          go_simp
        change wpAnyH _ _ _ _ _ _ _ (Act.put _ (some 91) _) _
        try simp only [Act.put, List.setIfInBounds_toArray, List.set_cons_zero, List.set_cons_succ]
        refine wpAnyH_take (i := 46) (v := .pointer (some ⟨b, o + k * 4 + 2, none⟩)) rfl (by kernel_rfl) (by kernel_rfl) (by kernel_rfl) (fun _ _ _ h => (h : False).elim) (Or.inl ⟨by rfl, ?_⟩) hHeld ?_
        · intro w hSw
          try dsimp only at hSw
          go_simp
        change wpAnyH _ _ _ _ _ _ _ (Act.put _ (some 92) _) _
        try simp only [Act.put, List.setIfInBounds_toArray, List.set_cons_zero, List.set_cons_succ]
        refine wpAnyH_take (i := 47) (v := .int .u64 (id : Int)) rfl (by kernel_rfl) (by kernel_rfl) (by kernel_rfl) (fun _ _ _ h => (h : False).elim) (Or.inl ⟨by rfl, ?_⟩) hHeld ?_
        · intro w hSw
          try dsimp only at hSw
          go_simp
        change wpAnyH _ _ _ _ _ _ _ (Act.put _ (some 93) _) _
        try simp only [Act.put, List.setIfInBounds_toArray, List.set_cons_zero, List.set_cons_succ]
        refine wpAnyH_take (i := 48) (v := .slice (some ⟨b, o, none⟩) n c) rfl (by kernel_rfl) (by kernel_rfl) (by kernel_rfl) (fun _ _ _ h => (h : False).elim) (Or.inl ⟨by rfl, ?_⟩) hHeld ?_
        · intro w hSw
          try dsimp only at hSw
          go_simp
        change wpAnyH _ _ _ _ _ _ _ (Act.put _ (some 94) _) _
        try simp only [Act.put, List.setIfInBounds_toArray, List.set_cons_zero, List.set_cons_succ]
        refine wpAnyH_take (i := 49) (v := .int .i64 (k : Int)) rfl (by kernel_rfl) (by kernel_rfl) (by kernel_rfl) (fun _ _ _ h => (h : False).elim) (Or.inl ⟨by rfl, ?_⟩) hHeld ?_
        · intro w hSw
          try dsimp only at hSw
          go_simp
        change wpAnyH _ _ _ _ _ _ _ (Act.put _ (some 95) _) _
        try simp only [Act.put, List.setIfInBounds_toArray, List.set_cons_zero, List.set_cons_succ]
        refine wpAnyH_take (i := 50) (v := .pointer (some ⟨b, o + k * 4, none⟩)) rfl (by kernel_rfl) (by kernel_rfl) (by kernel_rfl) (fun _ _ _ h => (h : False).elim) (Or.inl ⟨by rfl, ?_⟩) hHeld ?_
        · intro w hSw
          try dsimp only at hSw
          go_simp
        change wpAnyH _ _ _ _ _ _ _ (Act.put _ (some 96) _) _
        try simp only [Act.put, List.setIfInBounds_toArray, List.set_cons_zero, List.set_cons_succ]
        refine wpAnyH_take (i := 51) (v := .pointer (some ⟨b, o + k * 4 + 3, none⟩)) rfl (by kernel_rfl) (by kernel_rfl) (by kernel_rfl) (fun _ _ _ h => (h : False).elim) (Or.inl ⟨by rfl, ?_⟩) hHeld ?_
        · intro w hSw
          try dsimp only at hSw
          go_simp
        change wpAnyH _ _ _ _ _ _ _ (Act.put _ (some 97) _) _
        try simp only [Act.put, List.setIfInBounds_toArray, List.set_cons_zero, List.set_cons_succ]
        refine wpAnyH_take (i := 52) (v := .int .i64 ch) rfl (by kernel_rfl) (by kernel_rfl) (by kernel_rfl) (fun _ _ _ h => (h : False).elim) (Or.inl ⟨by rfl, ?_⟩) hHeld ?_
        · intro w hSw
          try dsimp only at hSw
          go_simp
        change wpAnyH _ _ _ _ _ _ _ (Act.put _ (some 98) _) _
        try simp only [Act.put, List.setIfInBounds_toArray, List.set_cons_zero, List.set_cons_succ]
        refine wpAnyH_ready (rs := [41]) (by kernel_rfl) (by simp) ?_
        refine AllReadyH.cons rfl (fun K hK => ?_) AllReadyH.nil
        clear hHeld
        go_simp
        refine (take_any wr.drew pb mb most next S id ch HD3.out.win o3 o4 o5).mono ?_
        unfold TakePost
        rw [HER.out, HNEW.out]
        rintro e w4 ⟨rfl, hs4, hf4⟩
        obtain ⟨he4, hb4⟩ := HD3.out.kstep hs4 hf4
        have HE4 := Lib.hid he4
        have HF4 : Hid (Below w.heap.size w w4) := HBd.out.trans hb4
        have hc4 := HFR.out w4 HF4.out
        clear hs4 hf4 he4 hb4
        refine hK.out _ _ ⟨hc4.k0, hc4.k1, hc4.k2, hc4.k3⟩ (fun hHeld => ?_)
        clear hK K
        try simp only [Act.put, List.setIfInBounds_toArray, List.set_cons_zero, List.set_cons_succ]
        refine wpAnyH_ready (rs := [53]) (by kernel_rfl) (by simp) ?_
        refine AllReadyH.cons rfl (fun K hK => ?_) AllReadyH.nil
        clear hHeld
        go_simp
        refine (rtake_any w.heap.size w4 rb most next S id ch HE4.out.ref HE4.out.hB hlen64 o3 o4 o5).mono ?_
        rw [HER.out, HNEW.out]
        rintro e w5 ⟨rfl, hs5⟩
        obtain ⟨he5, hb5⟩ := HE4.out.dstep hs5
        have HE5 := Lib.hid he5
        have HF5 : Hid (Below w.heap.size w w5) := HF4.out.trans hb5
        have hc5 := HFR.out w5 HF5.out
        clear hs5 he5 hb5
        refine hK.out _ _ ⟨hc5.k0, hc5.k1, hc5.k2, hc5.k3⟩ (fun hHeld => ?_)
        clear hK K
        try simp only [Act.put, List.setIfInBounds_toArray, List.set_cons_zero, List.set_cons_succ]
        refine wpAnyH_take (i := 54) (v := .bool false) rfl (by kernel_rfl) (by kernel_rfl) (by kernel_rfl) (fun _ _ _ h => (h : False).elim) (Or.inl ⟨by rfl, ?_⟩) hHeld ?_
        · intro w hSw
          try dsimp only at hSw
          go_simp
        change wpAnyH _ _ _ _ _ _ _ (Act.put _ (some 100) _) _
        try simp only [Act.put, List.setIfInBounds_toArray, List.set_cons_zero, List.set_cons_succ]
        refine wpAnyH_take (i := 55) (v := .bool false) rfl (by kernel_rfl) (by kernel_rfl) (by kernel_rfl) (fun _ _ _ h => (h : False).elim) (Or.inl ⟨by rfl, ?_⟩) hHeld ?_
        · intro w hSw
          try dsimp only at hSw
          go_simp
        change wpAnyH _ _ _ _ _ _ _ (Act.put _ (some 101) _) _
        try simp only [Act.put, List.setIfInBounds_toArray, List.set_cons_zero, List.set_cons_succ]
        refine wpAnyH_take (i := 56) (v := .bool false) rfl (by kernel_rfl) (by kernel_rfl) (by kernel_rfl) (fun _ _ _ h => (h : False).elim) (Or.inl ⟨by rfl, ?_⟩) hHeld ?_
        · intro w hSw
          try dsimp only at hSw
          go_simp
        change wpAnyH _ _ _ _ _ _ _ (Act.put _ (some 102) _) _
        try simp only [Act.put, List.setIfInBounds_toArray, List.set_cons_zero, List.set_cons_succ]
        refine wpAnyH_done (by kernel_rfl) ?_ _
        refine NoPanic.normal ?_
        clear hHeld hc3 hc4 hc5
        have HWN : Hid (∀ m, Win (w5.drewN m) pb mb most next S') := fun m => Win.drewN HE5.out.win _
        obtain ⟨lo, lc, hr⟩ := HE5.out.ref
        have cr1 := hr.c1
        have cr2 := hr.c2
        clear hr
        go_wp2_with fail
        go_quiet ((first | (go_at_call 12; exact quiet_left (has_any _ pb mb most next S' (HWN.out _))) | (go_at_call 15; exact quiet_left (next_any _ pb mb most next S' (HWN.out _)))))
        go_wp2_with fail
        go_roundw
        case rel => exact ⟨k + 1, next, S', by omega, by omega, by go_num, by omega, HE5.out.below (below_drewN (Below.refl _ _) _), below_drewN HF5.out _⟩
        case measure => simp [intOf]; omega
      · obtain ⟨g1, g2, g3⟩ := giveN_in wt h1 hln
        obtain ⟨er, her⟩ : ∃ z : Int, giveN most S.length wt = z := ⟨_, rfl⟩
        rw [her] at g1 g2
        obtain ⟨S', hnew⟩ : ∃ z : List Nat, S ++ run next er.toNat = z := ⟨_, rfl⟩
        obtain ⟨next', hnn⟩ : ∃ z : Nat, next + er.toNat = z := ⟨_, rfl⟩
        have hx' : next' ≤ next + 64 := by omega
        have HER := Lib.hid her
        have HNEW := Lib.hid hnew
        have HNN := Lib.hid hnn
        clear her hnew hnn g1 g2 g3
        have hc3 := HFR.out wr.drew HBd.out
        go_wp2_with fail
        refine wp_region_noPanic ?_
        refine wp_region_held_drew (S := fun w' => w'.cell? ⟨b, o + k * 4, none⟩ = some (.bool true) ∧ w'.cell? ⟨b, o + k * 4 + 1, none⟩ = some (.int .i64 wt) ∧ w'.cell? ⟨b, o + k * 4 + 2, none⟩ = some (.int .u64 (id : Int)) ∧ w'.cell? ⟨b, o + k * 4 + 3, none⟩ = some (.int .i64 ch)) (by kernel_rfl) ?_ (fun hHeld => ?_)
        · exact ⟨hc3.k0, hc3.k1, hc3.k2, hc3.k3⟩
        refine wpAnyH_take (i := 0) (v := .slice (some ⟨b, o, none⟩) n c) rfl (by kernel_rfl) (by kernel_rfl) (by kernel_rfl) (fun _ _ _ h => (h : False).elim) (Or.inl ⟨by rfl, ?_⟩) hHeld ?_
        · intro w hSw
          try dsimp only at hSw
          go_simp
        change wpAnyH _ _ _ _ _ _ _ (Act.put _ (some 46) _) _
        try simp only [Act.put, List.setIfInBounds_toArray, List.set_cons_zero, List.set_cons_succ]
        refine wpAnyH_take (i := 1) (v := .int .i64 (k : Int)) rfl (by kernel_rfl) (by kernel_rfl) (by kernel_rfl) (fun _ _ _ h => (h : False).elim) (Or.inl ⟨by rfl, ?_⟩) hHeld ?_
        · intro w hSw
          try dsimp only at hSw
          go_simp
        change wpAnyH _ _ _ _ _ _ _ (Act.put _ (some 47) _) _
        try simp only [Act.put, List.setIfInBounds_toArray, List.set_cons_zero, List.set_cons_succ]
        refine wpAnyH_take (i := 2) (v := .pointer (some ⟨b, o + k * 4, none⟩)) rfl (by kernel_rfl) (by kernel_rfl) (by kernel_rfl) (fun _ _ _ h => (h : False).elim) (Or.inl ⟨by rfl, ?_⟩) hHeld ?_
        · intro w hSw
          try dsimp only at hSw
          go_simp
        change wpAnyH _ _ _ _ _ _ _ (Act.put _ (some 48) _) _
        try simp only [Act.put, List.setIfInBounds_toArray, List.set_cons_zero, List.set_cons_succ]
        refine wpAnyH_take (i := 3) (v := .pointer (some ⟨b, o + k * 4, none⟩)) rfl (by kernel_rfl) (by kernel_rfl) (by kernel_rfl) (fun _ _ _ h => (h : False).elim) (Or.inl ⟨by rfl, ?_⟩) hHeld ?_
        · intro w hSw
          try dsimp only at hSw
          go_simp
        change wpAnyH _ _ _ _ _ _ _ (Act.put _ (some 49) _) _
        try simp only [Act.put, List.setIfInBounds_toArray, List.set_cons_zero, List.set_cons_succ]
        refine wpAnyH_take (i := 4) (v := .bool true) rfl (by kernel_rfl) (by kernel_rfl) (by kernel_rfl) (fun _ _ _ h => (h : False).elim) (Or.inl ⟨by rfl, ?_⟩) hHeld ?_
        · intro w hSw
          try dsimp only at hSw
          go_simp
        change wpAnyH _ _ _ _ _ _ _ (Act.put _ (some 50) _) _
        try simp only [Act.put, List.setIfInBounds_toArray, List.set_cons_zero, List.set_cons_succ]
        refine wpAnyH_take (i := 5) (v := .bool true) rfl (by kernel_rfl) (by kernel_rfl) (by kernel_rfl) (fun _ _ _ h => (h : False).elim) (Or.inl ⟨by rfl, ?_⟩) hHeld ?_
        · intro w hSw
          try dsimp only at hSw
          go_simp
        change wpAnyH _ _ _ _ _ _ _ (Act.put _ (some 51) _) _
        try simp only [Act.put, List.setIfInBounds_toArray, List.set_cons_zero, List.set_cons_succ]
        refine wpAnyH_take (i := 6) (v := .pointer (some ⟨pb, 0, none⟩)) rfl (by kernel_rfl) (by kernel_rfl) (by kernel_rfl) (fun _ _ _ h => (h : False).elim) (Or.inl ⟨by rfl, ?_⟩) hHeld ?_
        · intro w hSw
          try dsimp only at hSw
          go_simp
        change wpAnyH _ _ _ _ _ _ _ (Act.put _ (some 52) _) _
        try simp only [Act.put, List.setIfInBounds_toArray, List.set_cons_zero, List.set_cons_succ]
        refine wpAnyH_take (i := 7) (v := .slice (some ⟨b, o, none⟩) n c) rfl (by kernel_rfl) (by kernel_rfl) (by kernel_rfl) (fun _ _ _ h => (h : False).elim) (Or.inl ⟨by rfl, ?_⟩) hHeld ?_
        · intro w hSw
          try dsimp only at hSw
          go_simp
        change wpAnyH _ _ _ _ _ _ _ (Act.put _ (some 53) _) _
        try simp only [Act.put, List.setIfInBounds_toArray, List.set_cons_zero, List.set_cons_succ]
        refine wpAnyH_take (i := 8) (v := .int .i64 (k : Int)) rfl (by kernel_rfl) (by kernel_rfl) (by kernel_rfl) (fun _ _ _ h => (h : False).elim) (Or.inl ⟨by rfl, ?_⟩) hHeld ?_
        · intro w hSw
          try dsimp only at hSw
          go_simp
        change wpAnyH _ _ _ _ _ _ _ (Act.put _ (some 54) _) _
        try simp only [Act.put, List.setIfInBounds_toArray, List.set_cons_zero, List.set_cons_succ]
        refine wpAnyH_take (i := 9) (v := .pointer (some ⟨b, o + k * 4, none⟩)) rfl (by kernel_rfl) (by kernel_rfl) (by kernel_rfl) (fun _ _ _ h => (h : False).elim) (Or.inl ⟨by rfl, ?_⟩) hHeld ?_
        · intro w hSw
          try dsimp only at hSw
          go_simp
        change wpAnyH _ _ _ _ _ _ _ (Act.put _ (some 55) _) _
        try simp only [Act.put, List.setIfInBounds_toArray, List.set_cons_zero, List.set_cons_succ]
        refine wpAnyH_take (i := 10) (v := .pointer (some ⟨b, o + k * 4 + 1, none⟩)) rfl (by kernel_rfl) (by kernel_rfl) (by kernel_rfl) (fun _ _ _ h => (h : False).elim) (Or.inl ⟨by rfl, ?_⟩) hHeld ?_
        · intro w hSw
          try dsimp only at hSw
          go_simp
        change wpAnyH _ _ _ _ _ _ _ (Act.put _ (some 56) _) _
        try simp only [Act.put, List.setIfInBounds_toArray, List.set_cons_zero, List.set_cons_succ]
        refine wpAnyH_take (i := 11) (v := .int .i64 wt) rfl (by kernel_rfl) (by kernel_rfl) (by kernel_rfl) (fun _ _ _ h => (h : False).elim) (Or.inl ⟨by rfl, ?_⟩) hHeld ?_
        · intro w hSw
          try dsimp only at hSw
          go_simp
        change wpAnyH _ _ _ _ _ _ _ (Act.put _ (some 57) _) _
        try simp only [Act.put, List.setIfInBounds_toArray, List.set_cons_zero, List.set_cons_succ]
        refine wpAnyH_take (i := 13) (v := .pointer (some ⟨rb, 0, none⟩)) rfl (by kernel_rfl) (by kernel_rfl) (by kernel_rfl) (fun _ _ _ h => (h : False).elim) (Or.inl ⟨by rfl, ?_⟩) hHeld ?_
        · intro w hSw
          try dsimp only at hSw
          go_simp
        change wpAnyH _ _ _ _ _ _ _ (Act.put _ (some 59) _) _
        try simp only [Act.put, List.setIfInBounds_toArray, List.set_cons_zero, List.set_cons_succ]
        refine wpAnyH_take (i := 14) (v := .slice (some ⟨b, o, none⟩) n c) rfl (by kernel_rfl) (by kernel_rfl) (by kernel_rfl) (fun _ _ _ h => (h : False).elim) (Or.inl ⟨by rfl, ?_⟩) hHeld ?_
        · intro w hSw
          try dsimp only at hSw
          go_simp
        change wpAnyH _ _ _ _ _ _ _ (Act.put _ (some 60) _) _
        try simp only [Act.put, List.setIfInBounds_toArray, List.set_cons_zero, List.set_cons_succ]
        refine wpAnyH_take (i := 15) (v := .int .i64 (k : Int)) rfl (by kernel_rfl) (by kernel_rfl) (by kernel_rfl) (fun _ _ _ h => (h : False).elim) (Or.inl ⟨by rfl, ?_⟩) hHeld ?_
        · intro w hSw
          try dsimp only at hSw
          go_simp
        change wpAnyH _ _ _ _ _ _ _ (Act.put _ (some 61) _) _
        try simp only [Act.put, List.setIfInBounds_toArray, List.set_cons_zero, List.set_cons_succ]
        refine wpAnyH_take (i := 16) (v := .pointer (some ⟨b, o + k * 4, none⟩)) rfl (by kernel_rfl) (by kernel_rfl) (by kernel_rfl) (fun _ _ _ h => (h : False).elim) (Or.inl ⟨by rfl, ?_⟩) hHeld ?_
        · intro w hSw
          try dsimp only at hSw
          go_simp
        change wpAnyH _ _ _ _ _ _ _ (Act.put _ (some 62) _) _
        try simp only [Act.put, List.setIfInBounds_toArray, List.set_cons_zero, List.set_cons_succ]
        refine wpAnyH_take (i := 17) (v := .pointer (some ⟨b, o + k * 4 + 1, none⟩)) rfl (by kernel_rfl) (by kernel_rfl) (by kernel_rfl) (fun _ _ _ h => (h : False).elim) (Or.inl ⟨by rfl, ?_⟩) hHeld ?_
        · intro w hSw
          try dsimp only at hSw
          go_simp
        change wpAnyH _ _ _ _ _ _ _ (Act.put _ (some 63) _) _
        try simp only [Act.put, List.setIfInBounds_toArray, List.set_cons_zero, List.set_cons_succ]
        refine wpAnyH_take (i := 18) (v := .int .i64 wt) rfl (by kernel_rfl) (by kernel_rfl) (by kernel_rfl) (fun _ _ _ h => (h : False).elim) (Or.inl ⟨by rfl, ?_⟩) hHeld ?_
        · intro w hSw
          try dsimp only at hSw
          go_simp
        change wpAnyH _ _ _ _ _ _ _ (Act.put _ (some 64) _) _
        try simp only [Act.put, List.setIfInBounds_toArray, List.set_cons_zero, List.set_cons_succ]
        refine wpAnyH_ready (rs := [12]) (by kernel_rfl) (by simp) ?_
        refine AllReadyH.cons rfl (fun K hK => ?_) AllReadyH.nil
        clear hHeld
        go_simp
        refine (give_any wr.drew pb mb most next S wt HD3.out.win (by omega) o1 o2).mono ?_
        unfold GivePost
        rw [HER.out, HNEW.out, HNN.out]
        rintro e w4 ⟨rfl, hs4, hf4⟩
        obtain ⟨he4, hb4⟩ := HD3.out.kstep hs4 hf4
        have HE4 := Lib.hid he4
        have HF4 : Hid (Below w.heap.size w w4) := HBd.out.trans hb4
        have hc4 := HFR.out w4 HF4.out
        clear hs4 hf4 he4 hb4
        refine hK.out _ _ ⟨hc4.k0, hc4.k1, hc4.k2, hc4.k3⟩ (fun hHeld => ?_)
        clear hK K
        try simp only [Act.put, List.setIfInBounds_toArray, List.set_cons_zero, List.set_cons_succ]
        refine wpAnyH_ready (rs := [19]) (by kernel_rfl) (by simp) ?_
        refine AllReadyH.cons rfl (fun K hK => ?_) AllReadyH.nil
        clear hHeld
        go_simp
        refine (rgive_any w.heap.size w4 rb most next S wt HE4.out.ref HE4.out.hB h1 h2 hln (by omega) o1 o2).mono ?_
        rw [HER.out, HNEW.out, HNN.out]
        rintro e w5 ⟨rfl, hs5⟩
        obtain ⟨he5, hb5⟩ := HE4.out.dstep hs5
        have HE5 := Lib.hid he5
        have HF5 : Hid (Below w.heap.size w w5) := HF4.out.trans hb5
        have hc5 := HFR.out w5 HF5.out
        clear hs5 he5 hb5
        refine hK.out _ _ ⟨hc5.k0, hc5.k1, hc5.k2, hc5.k3⟩ (fun hHeld => ?_)
        clear hK K
        try simp only [Act.put, List.setIfInBounds_toArray, List.set_cons_zero, List.set_cons_succ]
        refine wpAnyH_take (i := 20) (v := .bool false) rfl (by kernel_rfl) (by kernel_rfl) (by kernel_rfl) (fun _ _ _ h => (h : False).elim) (Or.inl ⟨by rfl, ?_⟩) hHeld ?_
        · intro w hSw
          try dsimp only at hSw
          go_simp
        change wpAnyH _ _ _ _ _ _ _ (Act.put _ (some 66) _) _
        try simp only [Act.put, List.setIfInBounds_toArray, List.set_cons_zero, List.set_cons_succ]
        refine wpAnyH_take (i := 21) (v := .bool false) rfl (by kernel_rfl) (by kernel_rfl) (by kernel_rfl) (fun _ _ _ h => (h : False).elim) (Or.inl ⟨by rfl, ?_⟩) hHeld ?_
        · intro w hSw
          try dsimp only at hSw
          go_simp
        change wpAnyH _ _ _ _ _ _ _ (Act.put _ (some 67) _) _
        try simp only [Act.put, List.setIfInBounds_toArray, List.set_cons_zero, List.set_cons_succ]
        refine wpAnyH_take (i := 22) (v := .bool false) rfl (by kernel_rfl) (by kernel_rfl) (by kernel_rfl) (fun _ _ _ h => (h : False).elim) (Or.inl ⟨by rfl, ?_⟩) hHeld ?_
        · intro w hSw
          try dsimp only at hSw
          go_simp
        change wpAnyH _ _ _ _ _ _ _ (Act.put _ (some 68) _) _
        try simp only [Act.put, List.setIfInBounds_toArray, List.set_cons_zero, List.set_cons_succ]
        refine wpAnyH_take (i := 23) (v := .slice (some ⟨b, o, none⟩) n c) rfl (by kernel_rfl) (by kernel_rfl) (by kernel_rfl) (fun _ _ _ h => (h : False).elim) (Or.inl ⟨by rfl, ?_⟩) hHeld ?_
        · intro w hSw
          try dsimp only at hSw
          go_simp
        change wpAnyH _ _ _ _ _ _ _ (Act.put _ (some 69) _) _
        try simp only [Act.put, List.setIfInBounds_toArray, List.set_cons_zero, List.set_cons_succ]
        refine wpAnyH_take (i := 24) (v := .int .i64 (k : Int)) rfl (by kernel_rfl) (by kernel_rfl) (by kernel_rfl) (fun _ _ _ h => (h : False).elim) (Or.inl ⟨by rfl, ?_⟩) hHeld ?_
        · intro w hSw
          try dsimp only at hSw
          go_simp
        change wpAnyH _ _ _ _ _ _ _ (Act.put _ (some 70) _) _
        try simp only [Act.put, List.setIfInBounds_toArray, List.set_cons_zero, List.set_cons_succ]
        refine wpAnyH_take (i := 25) (v := .pointer (some ⟨b, o + k * 4, none⟩)) rfl (by kernel_rfl) (by kernel_rfl) (by kernel_rfl) (fun _ _ _ h => (h : False).elim) (Or.inl ⟨by rfl, ?_⟩) hHeld ?_
        · intro w hSw
          try dsimp only at hSw
          go_simp
        change wpAnyH _ _ _ _ _ _ _ (Act.put _ (some 71) _) _
        try simp only [Act.put, List.setIfInBounds_toArray, List.set_cons_zero, List.set_cons_succ]
        refine wpAnyH_take (i := 26) (v := .pointer (some ⟨b, o + k * 4, none⟩)) rfl (by kernel_rfl) (by kernel_rfl) (by kernel_rfl) (fun _ _ _ h => (h : False).elim) (Or.inl ⟨by rfl, ?_⟩) hHeld ?_
        · intro w hSw
          try dsimp only at hSw
          go_simp
        change wpAnyH _ _ _ _ _ _ _ (Act.put _ (some 72) _) _
        try simp only [Act.put, List.setIfInBounds_toArray, List.set_cons_zero, List.set_cons_succ]
        refine wpAnyH_take (i := 27) (v := .bool true) rfl (by kernel_rfl) (by kernel_rfl) (by kernel_rfl) (fun _ _ _ h => (h : False).elim) (Or.inl ⟨by rfl, ?_⟩) hHeld ?_
        · intro w hSw
          try dsimp only at hSw
          go_simp
        change wpAnyH _ _ _ _ _ _ _ (Act.put _ (some 73) _) _
        try simp only [Act.put, List.setIfInBounds_toArray, List.set_cons_zero, List.set_cons_succ]
        refine wpAnyH_take (i := 28) (v := .bool false) rfl (by kernel_rfl) (by kernel_rfl) (by kernel_rfl) (fun _ _ _ h => (h : False).elim) (Or.inl ⟨by rfl, ?_⟩) hHeld ?_
        · intro w hSw
          try dsimp only at hSw
          go_simp
        change wpAnyH _ _ _ _ _ _ _ (Act.put _ (some 74) _) _
        try simp only [Act.put, List.setIfInBounds_toArray, List.set_cons_zero, List.set_cons_succ]
        refine wpAnyH_take (i := 29) (v := .bool false) rfl (by kernel_rfl) (by kernel_rfl) (by kernel_rfl) (fun _ _ _ h => (h : False).elim) (Or.inl ⟨by rfl, ?_⟩) hHeld ?_
        · intro w hSw
          try dsimp only at hSw
          go_simp
        change wpAnyH _ _ _ _ _ _ _ (Act.put _ (some 75) _) _
        try simp only [Act.put, List.setIfInBounds_toArray, List.set_cons_zero, List.set_cons_succ]
        refine wpAnyH_take (i := 30) (v := undef) rfl (by kernel_rfl) (by kernel_rfl) (by kernel_rfl) (fun _ _ _ h => (h : False).elim) (Or.inr ⟨by rfl, rfl⟩) hHeld ?_
        change wpAnyH _ _ _ _ _ _ _ (Act.put _ (some 76) _) _
        try simp only [Act.put, List.setIfInBounds_toArray, List.set_cons_zero, List.set_cons_succ]
        refine wpAnyH_take (i := 31) (v := undef) rfl (by kernel_rfl) (by kernel_rfl) (by kernel_rfl) (fun _ _ _ h => (h : False).elim) (Or.inr ⟨by rfl, rfl⟩) hHeld ?_
        change wpAnyH _ _ _ _ _ _ _ (Act.put _ (some 77) _) _
        try simp only [Act.put, List.setIfInBounds_toArray, List.set_cons_zero, List.set_cons_succ]
        refine wpAnyH_take (i := 32) (v := undef) rfl (by kernel_rfl) (by kernel_rfl) (by kernel_rfl) (fun _ _ _ h => (h : False).elim) (Or.inr ⟨by rfl, rfl⟩) hHeld ?_
        change wpAnyH _ _ _ _ _ _ _ (Act.put _ (some 78) _) _
        try simp only [Act.put, List.setIfInBounds_toArray, List.set_cons_zero, List.set_cons_succ]
        refine wpAnyH_take (i := 33) (v := undef) rfl (by kernel_rfl) (by kernel_rfl) (by kernel_rfl) (fun _ _ _ h => (h : False).elim) (Or.inr ⟨by rfl, rfl⟩) hHeld ?_
        change wpAnyH _ _ _ _ _ _ _ (Act.put _ (some 79) _) _
        try simp only [Act.put, List.setIfInBounds_toArray, List.set_cons_zero, List.set_cons_succ]
        refine wpAnyH_take (i := 34) (v := undef) rfl (by kernel_rfl) (by kernel_rfl) (by kernel_rfl) (fun _ _ _ h => (h : False).elim) (Or.inr ⟨by rfl, rfl⟩) hHeld ?_
        change wpAnyH _ _ _ _ _ _ _ (Act.put _ (some 80) _) _
        try simp only [Act.put, List.setIfInBounds_toArray, List.set_cons_zero, List.set_cons_succ]
        refine wpAnyH_take (i := 35) (v := undef) rfl (by kernel_rfl) (by kernel_rfl) (by kernel_rfl) (fun _ _ _ h => (h : False).elim) (Or.inr ⟨by rfl, rfl⟩) hHeld ?_
        change wpAnyH _ _ _ _ _ _ _ (Act.put _ (some 81) _) _
        try simp only [Act.put, List.setIfInBounds_toArray, List.set_cons_zero, List.set_cons_succ]
        refine wpAnyH_take (i := 36) (v := undef) rfl (by kernel_rfl) (by kernel_rfl) (by kernel_rfl) (fun _ _ _ h => (h : False).elim) (Or.inr ⟨by rfl, rfl⟩) hHeld ?_
        change wpAnyH _ _ _ _ _ _ _ (Act.put _ (some 82) _) _
        try simp only [Act.put, List.setIfInBounds_toArray, List.set_cons_zero, List.set_cons_succ]
        refine wpAnyH_take (i := 37) (v := undef) rfl (by kernel_rfl) (by kernel_rfl) (by kernel_rfl) (fun _ _ _ h => (h : False).elim) (Or.inr ⟨by rfl, rfl⟩) hHeld ?_
        change wpAnyH _ _ _ _ _ _ _ (Act.put _ (some 83) _) _
        try simp only [Act.put, List.setIfInBounds_toArray, List.set_cons_zero, List.set_cons_succ]
        refine wpAnyH_take (i := 38) (v := undef) rfl (by kernel_rfl) (by kernel_rfl) (by kernel_rfl) (fun _ _ _ h => (h : False).elim) (Or.inr ⟨by rfl, rfl⟩) hHeld ?_
        change wpAnyH _ _ _ _ _ _ _ (Act.put _ (some 84) _) _
        try simp only [Act.put, List.setIfInBounds_toArray, List.set_cons_zero, List.set_cons_succ]
        refine wpAnyH_take (i := 39) (v := undef) rfl (by kernel_rfl) (by kernel_rfl) (by kernel_rfl) (fun _ _ _ h => (h : False).elim) (Or.inr ⟨by rfl, rfl⟩) hHeld ?_
        change wpAnyH _ _ _ _ _ _ _ (Act.put _ (some 85) _) _
        try simp only [Act.put, List.setIfInBounds_toArray, List.set_cons_zero, List.set_cons_succ]
        refine wpAnyH_take (i := 40) (v := undef) rfl (by kernel_rfl) (by kernel_rfl) (by kernel_rfl) (fun _ _ _ h => (h : False).elim) (Or.inr ⟨by rfl, rfl⟩) hHeld ?_
        change wpAnyH _ _ _ _ _ _ _ (Act.put _ (some 86) _) _
        try simp only [Act.put, List.setIfInBounds_toArray, List.set_cons_zero, List.set_cons_succ]
        refine wpAnyH_take (i := 41) (v := undef) rfl (by kernel_rfl) (by kernel_rfl) (by kernel_rfl) (fun _ _ _ h => (h : False).elim) (Or.inr ⟨by rfl, rfl⟩) hHeld ?_
        change wpAnyH _ _ _ _ _ _ _ (Act.put _ (some 87) _) _
        try simp only [Act.put, List.setIfInBounds_toArray, List.set_cons_zero, List.set_cons_succ]
        refine wpAnyH_take (i := 42) (v := undef) rfl (by kernel_rfl) (by kernel_rfl) (by kernel_rfl) (fun _ _ _ h => (h : False).elim) (Or.inr ⟨by rfl, rfl⟩) hHeld ?_
        change wpAnyH _ _ _ _ _ _ _ (Act.put _ (some 88) _) _
        try simp only [Act.put, List.setIfInBounds_toArray, List.set_cons_zero, List.set_cons_succ]
        refine wpAnyH_take (i := 43) (v := undef) rfl (by kernel_rfl) (by kernel_rfl) (by kernel_rfl) (fun _ _ _ h => (h : False).elim) (Or.inr ⟨by rfl, rfl⟩) hHeld ?_
        change wpAnyH _ _ _ _ _ _ _ (Act.put _ (some 89) _) _
        try simp only [Act.put, List.setIfInBounds_toArray, List.set_cons_zero, List.set_cons_succ]
        refine wpAnyH_take (i := 44) (v := undef) rfl (by kernel_rfl) (by kernel_rfl) (by kernel_rfl) (fun _ _ _ h => (h : False).elim) (Or.inr ⟨by rfl, rfl⟩) hHeld ?_
        change wpAnyH _ _ _ _ _ _ _ (Act.put _ (some 90) _) _
        try simp only [Act.put, List.setIfInBounds_toArray, List.set_cons_zero, List.set_cons_succ]
        refine wpAnyH_take (i := 45) (v := undef) rfl (by kernel_rfl) (by kernel_rfl) (by kernel_rfl) (fun _ _ _ h => (h : False).elim) (Or.inr ⟨by rfl, rfl⟩) hHeld ?_
        change wpAnyH _ _ _ _ _ _ _ (Act.put _ (some 91) _) _
        try simp only [Act.put, List.setIfInBounds_toArray, List.set_cons_zero, List.set_cons_succ]
        refine wpAnyH_take (i := 46) (v := undef) rfl (by kernel_rfl) (by kernel_rfl) (by kernel_rfl) (fun _ _ _ h => (h : False).elim) (Or.inr ⟨by rfl, rfl⟩) hHeld ?_
        change wpAnyH _ _ _ _ _ _ _ (Act.put _ (some 92) _) _
        try simp only [Act.put, List.setIfInBounds_toArray, List.set_cons_zero, List.set_cons_succ]
        refine wpAnyH_take (i := 47) (v := undef) rfl (by kernel_rfl) (by kernel_rfl) (by kernel_rfl) (fun _ _ _ h => (h : False).elim) (Or.inr ⟨by rfl, rfl⟩) hHeld ?_
        change wpAnyH _ _ _ _ _ _ _ (Act.put _ (some 93) _) _
        try simp only [Act.put, List.setIfInBounds_toArray, List.set_cons_zero, List.set_cons_succ]
        refine wpAnyH_take (i := 48) (v := undef) rfl (by kernel_rfl) (by kernel_rfl) (by kernel_rfl) (fun _ _ _ h => (h : False).elim) (Or.inr ⟨by rfl, rfl⟩) hHeld ?_
        change wpAnyH _ _ _ _ _ _ _ (Act.put _ (some 94) _) _
        try simp only [Act.put, List.setIfInBounds_toArray, List.set_cons_zero, List.set_cons_succ]
        refine wpAnyH_take (i := 49) (v := undef) rfl (by kernel_rfl) (by kernel_rfl) (by kernel_rfl) (fun _ _ _ h => (h : False).elim) (Or.inr ⟨by rfl, rfl⟩) hHeld ?_
        change wpAnyH _ _ _ _ _ _ _ (Act.put _ (some 95) _) _
        try simp only [Act.put, List.setIfInBounds_toArray, List.set_cons_zero, List.set_cons_succ]
        refine wpAnyH_take (i := 50) (v := undef) rfl (by kernel_rfl) (by kernel_rfl) (by kernel_rfl) (fun _ _ _ h => (h : False).elim) (Or.inr ⟨by rfl, rfl⟩) hHeld ?_
        change wpAnyH _ _ _ _ _ _ _ (Act.put _ (some 96) _) _
        try simp only [Act.put, List.setIfInBounds_toArray, List.set_cons_zero, List.set_cons_succ]
        refine wpAnyH_take (i := 51) (v := undef) rfl (by kernel_rfl) (by kernel_rfl) (by kernel_rfl) (fun _ _ _ h => (h : False).elim) (Or.inr ⟨by rfl, rfl⟩) hHeld ?_
        change wpAnyH _ _ _ _ _ _ _ (Act.put _ (some 97) _) _
        try simp only [Act.put, List.setIfInBounds_toArray, List.set_cons_zero, List.set_cons_succ]
        refine wpAnyH_take (i := 52) (v := undef) rfl (by kernel_rfl) (by kernel_rfl) (by kernel_rfl) (fun _ _ _ h => (h : False).elim) (Or.inr ⟨by rfl, rfl⟩) hHeld ?_
        change wpAnyH _ _ _ _ _ _ _ (Act.put _ (some 98) _) _
        try simp only [Act.put, List.setIfInBounds_toArray, List.set_cons_zero, List.set_cons_succ]
        refine wpAnyH_take (i := 53) (v := undef) rfl (by kernel_rfl) (by kernel_rfl) (by kernel_rfl) (fun _ _ _ h => (h : False).elim) (Or.inr ⟨by rfl, rfl⟩) hHeld ?_
        change wpAnyH _ _ _ _ _ _ _ (Act.put _ (some 99) _) _
        try simp only [Act.put, List.setIfInBounds_toArray, List.set_cons_zero, List.set_cons_succ]
        refine wpAnyH_take (i := 54) (v := undef) rfl (by kernel_rfl) (by kernel_rfl) (by kernel_rfl) (fun _ _ _ h => (h : False).elim) (Or.inr ⟨by rfl, rfl⟩) hHeld ?_
        change wpAnyH _ _ _ _ _ _ _ (Act.put _ (some 100) _) _
        try simp only [Act.put, List.setIfInBounds_toArray, List.set_cons_zero, List.set_cons_succ]
        refine wpAnyH_take (i := 55) (v := .bool false) rfl (by kernel_rfl) (by kernel_rfl) (by kernel_rfl) (fun _ _ _ h => (h : False).elim) (Or.inl ⟨by rfl, ?_⟩) hHeld ?_
        · intro w hSw
          try dsimp only at hSw
          go_simp
        change wpAnyH _ _ _ _ _ _ _ (Act.put _ (some 101) _) _
        try simp only [Act.put, List.setIfInBounds_toArray, List.set_cons_zero, List.set_cons_succ]
        refine wpAnyH_take (i := 56) (v := .bool false) rfl (by kernel_rfl) (by kernel_rfl) (by kernel_rfl) (fun _ _ _ h => (h : False).elim) (Or.inl ⟨by rfl, ?_⟩) hHeld ?_
        · intro w hSw
          try dsimp only at hSw
          go_simp
        change wpAnyH _ _ _ _ _ _ _ (Act.put _ (some 102) _) _
        try simp only [Act.put, List.setIfInBounds_toArray, List.set_cons_zero, List.set_cons_succ]
        refine wpAnyH_done (by kernel_rfl) ?_ _
        refine NoPanic.normal ?_
        clear hHeld hc3 hc4 hc5
        have HWN : Hid (∀ m, Win (w5.drewN m) pb mb most next' S') := fun m => Win.drewN HE5.out.win _
        obtain ⟨lo, lc, hr⟩ := HE5.out.ref
        have cr1 := hr.c1
        have cr2 := hr.c2
        clear hr
        go_wp2_with fail
        go_quiet ((first | (go_at_call 12; exact quiet_left (has_any _ pb mb most next' S' (HWN.out _))) | (go_at_call 15; exact quiet_left (next_any _ pb mb most next' S' (HWN.out _)))))
        go_wp2_with fail
        go_roundw
        case rel => exact ⟨k + 1, next', S', by omega, by omega, by go_num, by omega, HE5.out.below (below_drewN (Below.refl _ _) _), below_drewN HF5.out _⟩
        case measure => simp [intOf]; omega
    · have HLEN : Hid (S.length ≤ 64) := by have h1 := hh.out.win.len; have h2 := hh.out.win.m2; show _ ≤ _; omega
      obtain ⟨lo, lc, hr⟩ := hh.out.ref
      have HR := Lib.hid hr
      have cr := hr.c1
      have hnx2 : next ≤ 6401 := by omega
      clear hr
      have hend : (k < n) = False ∨ ((k < n) = True ∧ (k < 100) = False) := by
        by_cases h : k < n
        · right; exact ⟨by simp [h], by simp; omega⟩
        · left; simp [h]
      have HDd : Hid (Env w.heap.size wr.drew pb mb rb most next S next S) := hh.out.below (Below.refl _ _).drew
      have HBd : Hid (Below w.heap.size w wr.drew) := hb.out.drew
      have HRd : Hid (RfAt w.heap.size wr.drew rb most next S lo lc) := HR.out.below (Below.refl _ _).drew
      have hrl : rb < wr.drew.heap.size := HRd.out.blk.lt
      by_cases hend1 : k < n
      all_goals
        have hend2 : k < n → ¬ k < 100 := fun h => by omega
        clear hlt hend
        first | (have hend3 := hend2 hend1; clear hend2) | clear hend2
        go_wp2_with fail
        go_region_held3 (fun w' => w'.cell? ⟨rb, 1, none⟩ = some (.slice lo S.length lc)) (go_keep) (first
          | (go_at_call 17
             refine (all_any wr.drew pb mb most next S HDd.out.win).mono ?_
             rintro e w4 ⟨ro, rc, rfl, hrow4, hb4⟩
             have cr4 : w4.cell? ⟨rb, 1, none⟩ = some (.slice lo S.length lc) := (hb4.cell (p := ⟨rb, 1, none⟩) hrl).trans cr
             have HROW4 := Lib.hid hrow4
             have HB4 := Lib.hid hb4
             clear hrow4 hb4)
          | (go_at_call 18
             refine (words_same _ ro lo S.length rc lc S HROW4.out.src (HRd.out.below HB4.out).row.src (by have := HLEN.out; omega)).mono ?_
             rintro e w5 ⟨rfl, hb5⟩
             have cr5 : w5.cell? ⟨rb, 1, none⟩ = some (.slice lo S.length lc) := (hb5.cell (p := ⟨rb, 1, none⟩) (Nat.lt_of_lt_of_le hrl HB4.out.size)).trans cr4
             have HB5 := Lib.hid hb5
             clear hb5))
        go_wp2_with fail
        go_ret3
        exact ⟨pb, mb, rb, next, S, rfl, (HDd.out.below HB4.out).below HB5.out, hnx2, (HBd.out.trans (HB4.out.mono HBd.out.size)).trans (HB5.out.mono (Nat.le_trans HBd.out.size HB4.out.size))⟩
end Go.Proofs.Yteglklcaaicjjaa
