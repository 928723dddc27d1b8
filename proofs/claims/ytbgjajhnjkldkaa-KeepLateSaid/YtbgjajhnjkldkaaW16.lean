/- Contract of played, by a walk. -/
import Derived.Test.YtbgjajhnjkldkaaW15
namespace Go.Proofs.Ytbgjajhnjkldkaa
open Go.RowKit Go.WideShapes Go.Maps

def acA (a : ActV) : Array Value := #[.int .i64 a.d, .int .i64 a.k, .string a.u, .int .u8 (a.g 0), .int .u8 (a.g 1), .int .u8 (a.g 2), .int .u8 (a.g 3), .int .u8 (a.g 4), .int .u8 (a.g 5), .int .u8 (a.g 6), .int .u8 (a.g 7), .int .u8 (a.g 8), .int .u8 (a.g 9), .int .u8 (a.g 10), .int .u8 (a.g 11), .int .u8 (a.g 12), .int .u8 (a.g 13), .int .u8 (a.g 14), .int .u8 (a.g 15), .int .u16 a.t]
theorem acA_list (a : ActV) : (acA a).toList = acs a := rfl
theorem acA_one (a : ActV) : (acA a).all (·.oneCell') = true := by simp [acA, Value.oneCell']
theorem info53 : (Try.prog.info? 53).map (·.size) = some 20 := by kernel_rfl
theorem acA_guid (a : ActV) : ∀ j v, (gcs a.g).toList[j]? = some v → (acA a)[3 + j]? = some v := by
  intro j v hj
  rw [← Array.getElem?_toList, acA_list, Nat.add_comm]
  unfold acs
  simp only [List.getElem?_cons_succ]
  rw [List.getElem?_append_left (List.getElem?_eq_some_iff.1 hj).1]
  exact hj
theorem load29 {w : World} {b o : Nat} {v : Value} (h : w.cell? ⟨b, o, none⟩ = some v) : (Instr.loadAt 29 (.pointer (some ⟨b, o, none⟩))).run Try.prog w = .ok v w := by
  simp [Instr.loadAt, Instr.sureAddr, loadVar, isAgg, run_underlying Try.underlying29, h]

/-- BOTH KEEPS. -/
structure Env (B : Nat) (w : World) (pb mb rb : Nat) (S T : List It) : Prop where
  keep : KeepAt B w pb mb S
  ref : RfA B w rb T
  hB : B ≤ w.heap.size
section
variable {B : Nat} {w w' : World} {pb mb rb : Nat} {S T : List It}
theorem Env.below (h : Env B w pb mb rb S T) (hb : Below w.heap.size w w') : Env B w' pb mb rb S T := ⟨h.keep.below hb, h.ref.below hb, Nat.le_trans h.hB hb.size⟩
theorem Env.rlow (h : Env B w pb mb rb S T) : B ≤ rb := by obtain ⟨_, _, h⟩ := h.ref; exact h.low
theorem Env.pr (h : Env B w pb mb rb S T) : ¬ pb = rb := by obtain ⟨_, _, h2⟩ := h.ref; exact h.keep.blk.ne_ h2.blk (by decide)
theorem Env.mr (h : Env B w pb mb rb S T) : ¬ mb = rb := by
  obtain ⟨_, _, h2⟩ := h.ref
  obtain ⟨M, _, hd⟩ := h.keep.map
  exact fun e => Blk.ne_dict h2.blk hd e.symm
/-- A step of both. -/
def Stp (B pb mb rb : Nat) (S T : List It) (w w' : World) : Prop := Env B w' pb mb rb S T ∧ Fr (fun j => j = mb ∨ j = rb) w w'
theorem Env.kstep {S' : List It} (h : Env B w pb mb rb S T) (hs : KStep B pb mb S' w w') : Stp B pb mb rb S' T w w' :=
  ⟨⟨hs.1, h.ref.step h.keep hs.2, Nat.le_trans h.hB hs.2.size⟩, hs.2.mono (fun _ _ e => Or.inl e)⟩
theorem Env.dstep {T' : List It} (h : Env B w pb mb rb S T) (hs : DStep B rb T' w w') : Stp B pb mb rb S T' w w' :=
  ⟨⟨h.keep.fr hs.2 h.pr h.mr, hs.1, Nat.le_trans h.hB hs.2.size⟩, hs.2.mono (fun _ _ e => Or.inr e)⟩
theorem Stp.bel (h : Stp B pb mb rb S T w w') (hB : B ≤ w.heap.size) : Below B w w' :=
  ⟨h.2.os, h.2.tape, h.2.output, h.2.size, fun k hk => h.2.block k (by omega) (fun e => by
    have h1 := h.1.keep.lowm
    have h2 := h.1.rlow
    rcases e with e | e <;> omega)⟩
end
theorem putR_len (S : List It) (x : It) : (putR S x).2.length ≤ S.length + 1 := by
  unfold putR
  split
  · exact Nat.le_succ _
  · show (putS S x).length ≤ _
    rw [putS_len]; exact Nat.le_refl _
theorem delS_le (S : List It) (k : Int) : (delS S k).length ≤ S.length := List.length_filter_le _ _
theorem backR_len (S : List It) (k : Int) (u : ByteArray) (g : Gd) (t : Int) : (backR S k u g t).2.length ≤ S.length := by
  unfold backR
  split
  · exact Nat.le_refl _
  · split
    · exact delS_le S k
    · exact Nat.le_refl _
theorem env_new {w : World} {pb mb : Nat} {B : Nat} (h : KeepAt B w pb mb []) (hB : B ≤ w.heap.size) : Env B (w.alloc (.cells #[.slice none 0 0] 37)) pb mb w.heap.size [] [] := by
  have hal : Below w.heap.size w (w.alloc (.cells #[.slice none 0 0] 37)) := (Below.refl _ _).alloc (Nat.le_refl _) _
  exact ⟨h.below hal, ⟨none, 0, hB, Blk.new _ _ _, Row.nil _ _ _ _, List.Pairwise.nil⟩, Nat.le_trans hB hal.size⟩
theorem zero37 (w : World) : (zeroValue 37).run Try.prog w = .ok (.agg #[.slice none 0 0]) w := by kernel_rfl

def PlayedPost (B : Nat) (w : World) (e : Ending) (w' : World) : Prop :=
  ∃ pb mb rb S, e = .returned (.tuple #[.pointer (some ⟨pb, 0, none⟩), .pointer (some ⟨rb, 0, none⟩), .bool true]) ∧ Env B w' pb mb rb S S ∧ S.length ≤ 60 ∧ Below B w w'
attribute [-go_sem] Go.Instr.loadAt
attribute [local go_sem] load35 load3 load9 load29

set_option maxRecDepth 100000 in
set_option maxHeartbeats 4000000 in
theorem played_any (w : World) (ao : Option Addr) (n c : Nat) (F : Nat → ActV) (hF : Acts w ao n F) :
    Calls Try.prog 9 #[.slice ao n c] w (PlayedPost w.heap.size w) := by
  have HF := Lib.hid hF
  have hz37 := zero37
  clear hF
  go_enter Try.func9, Try.ntmps9
  go_wp2_with fail
  refine (new_any w).mono ?_
  rintro e w1 ⟨pb, mb, rfl, hk1, hb1⟩
  have HB2 : Hid (Below w.heap.size w (w1.alloc (.cells #[.slice none 0 0] 37))) := hb1.alloc hb1.size _
  have HH := Lib.hid (env_new hk1 hb1.size)
  clear hb1 hk1
  go_wp2_with fail
  generalize w1.alloc (.cells #[.slice none 0 0] 37) = w2 at *
  generalize w1.heap.size = rb at *
  go_loopw [2, 3, 4, 7, 8, 9, 10] (fun _ _ _ s _ _ _ wr => ∃ (k : Nat) (S : List It), k ≤ n ∧ k ≤ 60 ∧ S.length ≤ k ∧ s = .int .i64 k ∧ Hid (Env w.heap.size wr pb mb rb S S) ∧ Hid (Below w.heap.size w wr)) (fun _ _ _ s _ _ _ _ => n - (intOf s).toNat)
  case atStart => exact ⟨0, [], Nat.zero_le _, Nat.zero_le _, Nat.zero_le _, rfl, HH.out, HB2.out⟩
  case round =>
    obtain ⟨k, S, hk, hk2, hkl, rfl, hh, hb⟩ := hrel
    by_cases hlt : k < n ∧ k < 60
    · obtain ⟨hl1, hl2⟩ := hlt
      obtain ⟨b, o, rfl, hbl, ha0⟩ := HF.out k hl1
      obtain ⟨hcells, hin1, ht0, ht1⟩ := ha0.below hb.out hbl
      clear ha0
      generalize F k = q at *
      have l53 : (Instr.loadAt 53 (.pointer (some ⟨b, o + k * 20, none⟩))).run Try.prog wr = .ok (.agg (acA q)) wr := run_loadAt_mid wr b (o + k * 20) 53 (acA q).toList _ (fun j v hj => (hcells j (List.getElem?_eq_some_iff.1 hj).1).trans hj) Try.underlying53 rfl info53
      clear hcells
      have hi1 : (0 : Int) ≤ (k : Int) := by omega
      have hi2 : (k : Int) < (n : Int) := by omega
      have HB1 : Hid (Blk (wr.alloc (.cells (acA default) 53)) wr.heap.size 53 (acA default)) := Blk.new _ _ _
      go_wp2_with (refine wpList_store_blk rfl 53 (.tmp 8) (.tmp 27) rfl wr.heap.size 53 _ (acA q) rfl rfl HB1.out rfl info53 (acA_one _) ?_)
      intro w3 hb3 hf3
      have hB3 : Below wr.heap.size wr w3 := ((Fr.refl none0 wr).alloc _ |>.trans (hf3.mono (T' := fun k => wr.heap.size ≤ k) (fun k _ e => by omega)) (fun k hk h => absurd hk (Nat.not_lt_of_le h))).below (Nat.le_refl _) (fun _ h => h.elim)
      have HH3 := Lib.hid (hh.out.below hB3)
      have HB3 : Hid (Below w.heap.size w w3) := hb.out.trans (hB3.mono hb.out.size)
      have HBK := Lib.hid hb3
      generalize wr.heap.size = ab at *
      have hne : ¬ (ab = mb ∨ ab = rb) := by
        rintro (e | e)
        · exact Blk.ne_dict hb3 HH3.out.keep.map.choose_spec.2 e
        · obtain ⟨_, _, h2⟩ := HH3.out.ref
          exact hb3.ne_ h2.blk (by decide) e
      have c0 : w3.cell? ⟨ab, 0, none⟩ = some (.int .i64 q.d) := hb3.cell 0
      have c1 : w3.cell? ⟨ab, 1, none⟩ = some (.int .i64 q.k) := hb3.cell 1
      have c2 : w3.cell? ⟨ab, 2, none⟩ = some (.string q.u) := hb3.cell 2
      have c19 : w3.cell? ⟨ab, 19, none⟩ = some (.int .u16 q.t) := hb3.cell 19
      have HFR : Hid (∀ w', Fr (fun j => j = mb ∨ j = rb) w3 w' → w'.cell? ⟨ab, 1, none⟩ = some (.int .i64 q.k) ∧ w'.cell? ⟨ab, 2, none⟩ = some (.string q.u) ∧ w'.rangeAt ab 3 (gcs q.g).toList) := fun w' hf => by
        have h := HBK.out.fr hf hne
        exact ⟨h.cell 1, h.cell 2, fun j v hj => (h.cell _).trans (acA_guid q j v hj)⟩
      have hi39 : (Try.prog.info? 39).map (·.size) = some (gcs q.g).toList.length := by kernel_rfl
      have HTAIL : Hid (∀ (S' : List It) w', Stp w.heap.size pb mb rb S' S' w3 w' → Env w.heap.size w' pb mb rb S' S' ∧ Below w.heap.size w w') := fun S' w' hs => ⟨hs.1, HB3.out.trans (hs.bel HB3.out.size)⟩
      clear hB3 hf3 hb3 l53 hh hb
      have iw : IntKind.i64.wrap q.t = q.t := IntWalk.i64_in _ (by omega)
      by_cases d1 : q.d = 1
      · rw [d1] at c0
        clear d1
        obtain ⟨er, her⟩ : ∃ z : Int, (putR S ⟨q.k, q.u, q.g, q.t + 5⟩).1 = z := ⟨_, rfl⟩
        obtain ⟨S', hnew⟩ : ∃ z : List It, (putR S ⟨q.k, q.u, q.g, q.t + 5⟩).2 = z := ⟨_, rfl⟩
        have hS' : S'.length ≤ S.length + 1 := by rw [← hnew]; exact putR_len _ _
        have HER := Lib.hid her
        have HNEW := Lib.hid hnew
        clear her hnew
        go_wp2_with fail
        have HD3 : Hid (Env w.heap.size w3.drew pb mb rb S S) := HH3.out.below (Below.refl _ _).drew
        have hc3 := HFR.out w3.drew ((Fr.refl (fun j => j = mb ∨ j = rb) w3).drew)
        refine wp_region_noPanic ?_
        refine wp_region_held_drew (S := fun w' => w'.cell? ⟨ab, 1, none⟩ = some (.int .i64 q.k) ∧ w'.cell? ⟨ab, 2, none⟩ = some (.string q.u) ∧ w'.rangeAt ab 3 (gcs q.g).toList) (by kernel_rfl) ?_ (fun hHeld => ?_)
        · exact hc3
        refine wpAnyH_take (i := 0) (v := .pointer (some ⟨pb, 0, none⟩)) rfl (by kernel_rfl) (by kernel_rfl) (by kernel_rfl) (fun _ _ _ h => (h : False).elim) (Or.inl ⟨by rfl, ?_⟩) hHeld ?_
        · intro w hSw
          try dsimp only at hSw
          go_simp
        change wpAnyH _ _ _ _ _ _ _ (Act.put _ (some 35) _) _
        try simp only [Act.put, List.setIfInBounds_toArray, List.set_cons_zero, List.set_cons_succ]
        refine wpAnyH_take (i := 1) (v := .pointer (some ⟨ab, 1, none⟩)) rfl (by kernel_rfl) (by kernel_rfl) (by kernel_rfl) (fun _ _ _ h => (h : False).elim) (Or.inl ⟨by rfl, ?_⟩) hHeld ?_
        · intro w hSw
          try dsimp only at hSw
          go_simp
        change wpAnyH _ _ _ _ _ _ _ (Act.put _ (some 36) _) _
        try simp only [Act.put, List.setIfInBounds_toArray, List.set_cons_zero, List.set_cons_succ]
        refine wpAnyH_take (i := 2) (v := .int .i64 q.k) rfl (by kernel_rfl) (by kernel_rfl) (by kernel_rfl) (fun _ _ _ h => (h : False).elim) (Or.inl ⟨by rfl, ?_⟩) hHeld ?_
        · intro w hSw
          try dsimp only at hSw
          go_simp
        change wpAnyH _ _ _ _ _ _ _ (Act.put _ (some 37) _) _
        try simp only [Act.put, List.setIfInBounds_toArray, List.set_cons_zero, List.set_cons_succ]
        refine wpAnyH_take (i := 3) (v := .pointer (some ⟨ab, 2, none⟩)) rfl (by kernel_rfl) (by kernel_rfl) (by kernel_rfl) (fun _ _ _ h => (h : False).elim) (Or.inl ⟨by rfl, ?_⟩) hHeld ?_
        · intro w hSw
          try dsimp only at hSw
          go_simp
        change wpAnyH _ _ _ _ _ _ _ (Act.put _ (some 38) _) _
        try simp only [Act.put, List.setIfInBounds_toArray, List.set_cons_zero, List.set_cons_succ]
        refine wpAnyH_take (i := 4) (v := .string q.u) rfl (by kernel_rfl) (by kernel_rfl) (by kernel_rfl) (fun _ _ _ h => (h : False).elim) (Or.inl ⟨by rfl, ?_⟩) hHeld ?_
        · intro w hSw
          try dsimp only at hSw
          go_simp
        change wpAnyH _ _ _ _ _ _ _ (Act.put _ (some 39) _) _
        try simp only [Act.put, List.setIfInBounds_toArray, List.set_cons_zero, List.set_cons_succ]
        refine wpAnyH_take (i := 5) (v := .pointer (some ⟨ab, 3, none⟩)) rfl (by kernel_rfl) (by kernel_rfl) (by kernel_rfl) (fun _ _ _ h => (h : False).elim) (Or.inl ⟨by rfl, ?_⟩) hHeld ?_
        · intro w hSw
          try dsimp only at hSw
          go_simp
        change wpAnyH _ _ _ _ _ _ _ (Act.put _ (some 40) _) _
        try simp only [Act.put, List.setIfInBounds_toArray, List.set_cons_zero, List.set_cons_succ]
        refine wpAnyH_take (i := 6) (v := .agg ((gcs q.g).toList).toArray) rfl (by kernel_rfl) (by kernel_rfl) (by kernel_rfl) (fun _ _ _ h => (h : False).elim) (yieldsIf_load_mid (by rfl) 39 (.tmp 40) rfl ab 3 rfl ((gcs q.g).toList) _ (fun _ hs => hs.2.2) Try.underlying39 rfl hi39) hHeld ?_
        change wpAnyH _ _ _ _ _ _ _ (Act.put _ (some 41) _) _
        try simp only [Act.put, List.setIfInBounds_toArray, List.set_cons_zero, List.set_cons_succ]
        refine wpAnyH_take (i := 7) (v := .int .i64 q.t) rfl (by kernel_rfl) (by kernel_rfl) (by kernel_rfl) (fun _ _ _ h => (h : False).elim) (Or.inl ⟨by rfl, ?_⟩) hHeld ?_
        · intro w hSw
          try dsimp only at hSw
          go_simp
        change wpAnyH _ _ _ _ _ _ _ (Act.put _ (some 42) _) _
        try simp only [Act.put, List.setIfInBounds_toArray, List.set_cons_zero, List.set_cons_succ]
        refine wpAnyH_take (i := 9) (v := .pointer (some ⟨rb, 0, none⟩)) rfl (by kernel_rfl) (by kernel_rfl) (by kernel_rfl) (fun _ _ _ h => (h : False).elim) (Or.inl ⟨by rfl, ?_⟩) hHeld ?_
        · intro w hSw
          try dsimp only at hSw
          go_simp
        change wpAnyH _ _ _ _ _ _ _ (Act.put _ (some 44) _) _
        try simp only [Act.put, List.setIfInBounds_toArray, List.set_cons_zero, List.set_cons_succ]
        refine wpAnyH_take (i := 10) (v := .pointer (some ⟨ab, 1, none⟩)) rfl (by kernel_rfl) (by kernel_rfl) (by kernel_rfl) (fun _ _ _ h => (h : False).elim) (Or.inl ⟨by rfl, ?_⟩) hHeld ?_
        · intro w hSw
          try dsimp only at hSw
          go_simp
        change wpAnyH _ _ _ _ _ _ _ (Act.put _ (some 45) _) _
        try simp only [Act.put, List.setIfInBounds_toArray, List.set_cons_zero, List.set_cons_succ]
        refine wpAnyH_take (i := 11) (v := .int .i64 q.k) rfl (by kernel_rfl) (by kernel_rfl) (by kernel_rfl) (fun _ _ _ h => (h : False).elim) (Or.inl ⟨by rfl, ?_⟩) hHeld ?_
        · intro w hSw
          try dsimp only at hSw
          go_simp
        change wpAnyH _ _ _ _ _ _ _ (Act.put _ (some 46) _) _
        try simp only [Act.put, List.setIfInBounds_toArray, List.set_cons_zero, List.set_cons_succ]
        refine wpAnyH_take (i := 12) (v := .pointer (some ⟨ab, 2, none⟩)) rfl (by kernel_rfl) (by kernel_rfl) (by kernel_rfl) (fun _ _ _ h => (h : False).elim) (Or.inl ⟨by rfl, ?_⟩) hHeld ?_
        · intro w hSw
          try dsimp only at hSw
          go_simp
        change wpAnyH _ _ _ _ _ _ _ (Act.put _ (some 47) _) _
        try simp only [Act.put, List.setIfInBounds_toArray, List.set_cons_zero, List.set_cons_succ]
        refine wpAnyH_take (i := 13) (v := .string q.u) rfl (by kernel_rfl) (by kernel_rfl) (by kernel_rfl) (fun _ _ _ h => (h : False).elim) (Or.inl ⟨by rfl, ?_⟩) hHeld ?_
        · intro w hSw
          try dsimp only at hSw
          go_simp
        change wpAnyH _ _ _ _ _ _ _ (Act.put _ (some 48) _) _
        try simp only [Act.put, List.setIfInBounds_toArray, List.set_cons_zero, List.set_cons_succ]
        refine wpAnyH_take (i := 14) (v := .pointer (some ⟨ab, 3, none⟩)) rfl (by kernel_rfl) (by kernel_rfl) (by kernel_rfl) (fun _ _ _ h => (h : False).elim) (Or.inl ⟨by rfl, ?_⟩) hHeld ?_
        · intro w hSw
          try dsimp only at hSw
          go_simp
        change wpAnyH _ _ _ _ _ _ _ (Act.put _ (some 49) _) _
        try simp only [Act.put, List.setIfInBounds_toArray, List.set_cons_zero, List.set_cons_succ]
        refine wpAnyH_take (i := 15) (v := .agg ((gcs q.g).toList).toArray) rfl (by kernel_rfl) (by kernel_rfl) (by kernel_rfl) (fun _ _ _ h => (h : False).elim) (yieldsIf_load_mid (by rfl) 39 (.tmp 49) rfl ab 3 rfl ((gcs q.g).toList) _ (fun _ hs => hs.2.2) Try.underlying39 rfl hi39) hHeld ?_
        change wpAnyH _ _ _ _ _ _ _ (Act.put _ (some 50) _) _
        try simp only [Act.put, List.setIfInBounds_toArray, List.set_cons_zero, List.set_cons_succ]
        refine wpAnyH_take (i := 16) (v := .int .i64 q.t) rfl (by kernel_rfl) (by kernel_rfl) (by kernel_rfl) (fun _ _ _ h => (h : False).elim) (Or.inl ⟨by rfl, ?_⟩) hHeld ?_
        · intro w hSw
          try dsimp only at hSw
          go_simp
        change wpAnyH _ _ _ _ _ _ _ (Act.put _ (some 51) _) _
        try simp only [Act.put, List.setIfInBounds_toArray, List.set_cons_zero, List.set_cons_succ]
        refine wpAnyH_ready (rs := [8]) (by kernel_rfl) (by simp) ?_
        refine AllReadyH.cons rfl (fun K hK => ?_) AllReadyH.nil
        clear hHeld
        go_simp
        refine (put_any w.heap.size w3.drew pb mb S q.k q.u q.g q.t HD3.out.keep hin1 (by omega) (by omega) (by omega)).mono ?_
        rw [HER.out, HNEW.out]
        rintro e w4 ⟨rfl, hs4⟩
        have hst4 := HD3.out.kstep hs4
        have HE4 := Lib.hid hst4.1
        have HF4 : Hid (Fr (fun j => j = mb ∨ j = rb) w3 w4) := ((Fr.refl (fun j => j = mb ∨ j = rb) w3).drew).step hst4.2
        have hc4 := HFR.out w4 HF4.out
        clear hs4 hst4
        refine hK.out _ _ hc4 (fun hHeld => ?_)
        clear hK K
        try simp only [Act.put, List.setIfInBounds_toArray, List.set_cons_zero, List.set_cons_succ]
        refine wpAnyH_ready (rs := [17]) (by kernel_rfl) (by simp) ?_
        refine AllReadyH.cons rfl (fun K hK => ?_) AllReadyH.nil
        clear hHeld
        go_simp
        refine (rput_any w.heap.size w4 rb S q.k q.u q.g q.t HE4.out.ref HE4.out.hB (by omega) (by omega) (by omega)).mono ?_
        rw [HER.out, HNEW.out]
        rintro e w5 ⟨rfl, hs5⟩
        have hst5 := HE4.out.dstep hs5
        have HE5 := Lib.hid hst5.1
        have HF5 : Hid (Fr (fun j => j = mb ∨ j = rb) w3 w5) := HF4.out.step hst5.2
        have hc5 := HFR.out w5 HF5.out
        clear hs5 hst5
        refine hK.out _ _ hc5 (fun hHeld => ?_)
        clear hK K
        try simp only [Act.put, List.setIfInBounds_toArray, List.set_cons_zero, List.set_cons_succ]
        refine wpAnyH_take (i := 18) (v := .bool true) rfl (by kernel_rfl) (by kernel_rfl) (by kernel_rfl) (fun _ _ _ h => (h : False).elim) (Or.inl ⟨by rfl, ?_⟩) hHeld ?_
        · intro w hSw
          try dsimp only at hSw
          go_simp
        change wpAnyH _ _ _ _ _ _ _ (Act.put _ (some 53) _) _
        try simp only [Act.put, List.setIfInBounds_toArray, List.set_cons_zero, List.set_cons_succ]
        refine wpAnyH_take (i := 19) (v := .bool true) rfl (by kernel_rfl) (by kernel_rfl) (by kernel_rfl) (fun _ _ _ h => (h : False).elim) (Or.inl ⟨by rfl, ?_⟩) hHeld ?_
        · intro w hSw
          try dsimp only at hSw
          go_simp
        change wpAnyH _ _ _ _ _ _ _ (Act.put _ (some 10) _) _
        try simp only [Act.put, List.setIfInBounds_toArray, List.set_cons_zero, List.set_cons_succ]
        refine wpAnyH_done (by kernel_rfl) ?_ _
        refine NoPanic.normal ?_
        clear hHeld hc3 hc4 hc5
        obtain ⟨he, hbt⟩ := HTAIL.out S' w5 ⟨HE5.out, HF5.out⟩
        have HE := Lib.hid he
        have HBT := Lib.hid hbt
        clear he hbt
        have HKN : Hid (∀ m, KeepAt w.heap.size (w5.drewN m) pb mb S') := fun m => HE.out.keep.below (below_drewN (Below.refl _ _) m)
        obtain ⟨lo, lc, hr⟩ := HE.out.ref
        have cr := hr.c0
        clear hr
        go_wp2_with fail
        go_quiet ((go_at_call 16; exact Calls.quiet_of_same ((len_any w.heap.size _ pb mb S' (HKN.out _)).mono fun _ _ ⟨q1, q2⟩ => ⟨q1, q2.symm⟩)))
        go_wp2_with fail
        go_roundw
        case rel => exact ⟨k + 1, S', by omega, by omega, by omega, by go_num, HE.out.below (below_drewN (Below.refl _ _) _), below_drewN HBT.out _⟩
        case measure => simp [intOf]; omega
      · by_cases d2 : q.d = 2
        · rw [d2] at c0
          clear d2
          obtain ⟨er, her⟩ : ∃ z : Int, (backR S q.k q.u q.g q.t).1 = z := ⟨_, rfl⟩
          obtain ⟨S', hnew⟩ : ∃ z : List It, (backR S q.k q.u q.g q.t).2 = z := ⟨_, rfl⟩
          have hS' : S'.length ≤ S.length := by rw [← hnew]; exact backR_len _ _ _ _ _
          have HER := Lib.hid her
          have HNEW := Lib.hid hnew
          clear her hnew
          go_wp2_with fail
          have HD3 : Hid (Env w.heap.size w3.drew pb mb rb S S) := HH3.out.below (Below.refl _ _).drew
          have hc3 := HFR.out w3.drew ((Fr.refl (fun j => j = mb ∨ j = rb) w3).drew)
          refine wp_region_noPanic ?_
          refine wp_region_held_drew (S := fun w' => w'.cell? ⟨ab, 1, none⟩ = some (.int .i64 q.k) ∧ w'.cell? ⟨ab, 2, none⟩ = some (.string q.u) ∧ w'.rangeAt ab 3 (gcs q.g).toList) (by kernel_rfl) ?_ (fun hHeld => ?_)
          · exact hc3
          refine wpAnyH_take (i := 0) (v := .pointer (some ⟨pb, 0, none⟩)) rfl (by kernel_rfl) (by kernel_rfl) (by kernel_rfl) (fun _ _ _ h => (h : False).elim) (Or.inl ⟨by rfl, ?_⟩) hHeld ?_
          · intro w hSw
            try dsimp only at hSw
            go_simp
          change wpAnyH _ _ _ _ _ _ _ (Act.put _ (some 56) _) _
          try simp only [Act.put, List.setIfInBounds_toArray, List.set_cons_zero, List.set_cons_succ]
          refine wpAnyH_take (i := 1) (v := .pointer (some ⟨ab, 1, none⟩)) rfl (by kernel_rfl) (by kernel_rfl) (by kernel_rfl) (fun _ _ _ h => (h : False).elim) (Or.inl ⟨by rfl, ?_⟩) hHeld ?_
          · intro w hSw
            try dsimp only at hSw
            go_simp
          change wpAnyH _ _ _ _ _ _ _ (Act.put _ (some 57) _) _
          try simp only [Act.put, List.setIfInBounds_toArray, List.set_cons_zero, List.set_cons_succ]
          refine wpAnyH_take (i := 2) (v := .int .i64 q.k) rfl (by kernel_rfl) (by kernel_rfl) (by kernel_rfl) (fun _ _ _ h => (h : False).elim) (Or.inl ⟨by rfl, ?_⟩) hHeld ?_
          · intro w hSw
            try dsimp only at hSw
            go_simp
          change wpAnyH _ _ _ _ _ _ _ (Act.put _ (some 58) _) _
          try simp only [Act.put, List.setIfInBounds_toArray, List.set_cons_zero, List.set_cons_succ]
          refine wpAnyH_take (i := 3) (v := .pointer (some ⟨ab, 2, none⟩)) rfl (by kernel_rfl) (by kernel_rfl) (by kernel_rfl) (fun _ _ _ h => (h : False).elim) (Or.inl ⟨by rfl, ?_⟩) hHeld ?_
          · intro w hSw
            try dsimp only at hSw
            go_simp
          change wpAnyH _ _ _ _ _ _ _ (Act.put _ (some 59) _) _
          try simp only [Act.put, List.setIfInBounds_toArray, List.set_cons_zero, List.set_cons_succ]
          refine wpAnyH_take (i := 4) (v := .string q.u) rfl (by kernel_rfl) (by kernel_rfl) (by kernel_rfl) (fun _ _ _ h => (h : False).elim) (Or.inl ⟨by rfl, ?_⟩) hHeld ?_
          · intro w hSw
            try dsimp only at hSw
            go_simp
          change wpAnyH _ _ _ _ _ _ _ (Act.put _ (some 60) _) _
          try simp only [Act.put, List.setIfInBounds_toArray, List.set_cons_zero, List.set_cons_succ]
          refine wpAnyH_take (i := 5) (v := .pointer (some ⟨ab, 3, none⟩)) rfl (by kernel_rfl) (by kernel_rfl) (by kernel_rfl) (fun _ _ _ h => (h : False).elim) (Or.inl ⟨by rfl, ?_⟩) hHeld ?_
          · intro w hSw
            try dsimp only at hSw
            go_simp
          change wpAnyH _ _ _ _ _ _ _ (Act.put _ (some 61) _) _
          try simp only [Act.put, List.setIfInBounds_toArray, List.set_cons_zero, List.set_cons_succ]
          refine wpAnyH_take (i := 6) (v := .agg ((gcs q.g).toList).toArray) rfl (by kernel_rfl) (by kernel_rfl) (by kernel_rfl) (fun _ _ _ h => (h : False).elim) (yieldsIf_load_mid (by rfl) 39 (.tmp 61) rfl ab 3 rfl ((gcs q.g).toList) _ (fun _ hs => hs.2.2) Try.underlying39 rfl hi39) hHeld ?_
          change wpAnyH _ _ _ _ _ _ _ (Act.put _ (some 62) _) _
          try simp only [Act.put, List.setIfInBounds_toArray, List.set_cons_zero, List.set_cons_succ]
          refine wpAnyH_take (i := 7) (v := .int .i64 q.t) rfl (by kernel_rfl) (by kernel_rfl) (by kernel_rfl) (fun _ _ _ h => (h : False).elim) (Or.inl ⟨by rfl, ?_⟩) hHeld ?_
          · intro w hSw
            try dsimp only at hSw
            go_simp
          change wpAnyH _ _ _ _ _ _ _ (Act.put _ (some 63) _) _
          try simp only [Act.put, List.setIfInBounds_toArray, List.set_cons_zero, List.set_cons_succ]
          refine wpAnyH_take (i := 9) (v := .pointer (some ⟨rb, 0, none⟩)) rfl (by kernel_rfl) (by kernel_rfl) (by kernel_rfl) (fun _ _ _ h => (h : False).elim) (Or.inl ⟨by rfl, ?_⟩) hHeld ?_
          · intro w hSw
            try dsimp only at hSw
            go_simp
          change wpAnyH _ _ _ _ _ _ _ (Act.put _ (some 65) _) _
          try simp only [Act.put, List.setIfInBounds_toArray, List.set_cons_zero, List.set_cons_succ]
          refine wpAnyH_take (i := 10) (v := .pointer (some ⟨ab, 1, none⟩)) rfl (by kernel_rfl) (by kernel_rfl) (by kernel_rfl) (fun _ _ _ h => (h : False).elim) (Or.inl ⟨by rfl, ?_⟩) hHeld ?_
          · intro w hSw
            try dsimp only at hSw
            go_simp
          change wpAnyH _ _ _ _ _ _ _ (Act.put _ (some 66) _) _
          try simp only [Act.put, List.setIfInBounds_toArray, List.set_cons_zero, List.set_cons_succ]
          refine wpAnyH_take (i := 11) (v := .int .i64 q.k) rfl (by kernel_rfl) (by kernel_rfl) (by kernel_rfl) (fun _ _ _ h => (h : False).elim) (Or.inl ⟨by rfl, ?_⟩) hHeld ?_
          · intro w hSw
            try dsimp only at hSw
            go_simp
          change wpAnyH _ _ _ _ _ _ _ (Act.put _ (some 67) _) _
          try simp only [Act.put, List.setIfInBounds_toArray, List.set_cons_zero, List.set_cons_succ]
          refine wpAnyH_take (i := 12) (v := .pointer (some ⟨ab, 2, none⟩)) rfl (by kernel_rfl) (by kernel_rfl) (by kernel_rfl) (fun _ _ _ h => (h : False).elim) (Or.inl ⟨by rfl, ?_⟩) hHeld ?_
          · intro w hSw
            try dsimp only at hSw
            go_simp
          change wpAnyH _ _ _ _ _ _ _ (Act.put _ (some 68) _) _
          try simp only [Act.put, List.setIfInBounds_toArray, List.set_cons_zero, List.set_cons_succ]
          refine wpAnyH_take (i := 13) (v := .string q.u) rfl (by kernel_rfl) (by kernel_rfl) (by kernel_rfl) (fun _ _ _ h => (h : False).elim) (Or.inl ⟨by rfl, ?_⟩) hHeld ?_
          · intro w hSw
            try dsimp only at hSw
            go_simp
          change wpAnyH _ _ _ _ _ _ _ (Act.put _ (some 69) _) _
          try simp only [Act.put, List.setIfInBounds_toArray, List.set_cons_zero, List.set_cons_succ]
          refine wpAnyH_take (i := 14) (v := .pointer (some ⟨ab, 3, none⟩)) rfl (by kernel_rfl) (by kernel_rfl) (by kernel_rfl) (fun _ _ _ h => (h : False).elim) (Or.inl ⟨by rfl, ?_⟩) hHeld ?_
          · intro w hSw
            try dsimp only at hSw
            go_simp
          change wpAnyH _ _ _ _ _ _ _ (Act.put _ (some 70) _) _
          try simp only [Act.put, List.setIfInBounds_toArray, List.set_cons_zero, List.set_cons_succ]
          refine wpAnyH_take (i := 15) (v := .agg ((gcs q.g).toList).toArray) rfl (by kernel_rfl) (by kernel_rfl) (by kernel_rfl) (fun _ _ _ h => (h : False).elim) (yieldsIf_load_mid (by rfl) 39 (.tmp 70) rfl ab 3 rfl ((gcs q.g).toList) _ (fun _ hs => hs.2.2) Try.underlying39 rfl hi39) hHeld ?_
          change wpAnyH _ _ _ _ _ _ _ (Act.put _ (some 71) _) _
          try simp only [Act.put, List.setIfInBounds_toArray, List.set_cons_zero, List.set_cons_succ]
          refine wpAnyH_take (i := 16) (v := .int .i64 q.t) rfl (by kernel_rfl) (by kernel_rfl) (by kernel_rfl) (fun _ _ _ h => (h : False).elim) (Or.inl ⟨by rfl, ?_⟩) hHeld ?_
          · intro w hSw
            try dsimp only at hSw
            go_simp
          change wpAnyH _ _ _ _ _ _ _ (Act.put _ (some 72) _) _
          try simp only [Act.put, List.setIfInBounds_toArray, List.set_cons_zero, List.set_cons_succ]
          refine wpAnyH_ready (rs := [8]) (by kernel_rfl) (by simp) ?_
          refine AllReadyH.cons rfl (fun K hK => ?_) AllReadyH.nil
          clear hHeld
          go_simp
          refine (back_any w.heap.size w3.drew pb mb S q.k q.u q.g q.t HD3.out.keep hin1).mono ?_
          rw [HER.out, HNEW.out]
          rintro e w4 ⟨rfl, hs4⟩
          have hst4 := HD3.out.kstep hs4
          have HE4 := Lib.hid hst4.1
          have HF4 : Hid (Fr (fun j => j = mb ∨ j = rb) w3 w4) := ((Fr.refl (fun j => j = mb ∨ j = rb) w3).drew).step hst4.2
          have hc4 := HFR.out w4 HF4.out
          clear hs4 hst4
          refine hK.out _ _ hc4 (fun hHeld => ?_)
          clear hK K
          try simp only [Act.put, List.setIfInBounds_toArray, List.set_cons_zero, List.set_cons_succ]
          refine wpAnyH_ready (rs := [17]) (by kernel_rfl) (by simp) ?_
          refine AllReadyH.cons rfl (fun K hK => ?_) AllReadyH.nil
          clear hHeld
          go_simp
          refine (rback_any w.heap.size w4 rb S q.k q.u q.g q.t HE4.out.ref HE4.out.hB (by omega)).mono ?_
          rw [HER.out, HNEW.out]
          rintro e w5 ⟨rfl, hs5⟩
          have hst5 := HE4.out.dstep hs5
          have HE5 := Lib.hid hst5.1
          have HF5 : Hid (Fr (fun j => j = mb ∨ j = rb) w3 w5) := HF4.out.step hst5.2
          have hc5 := HFR.out w5 HF5.out
          clear hs5 hst5
          refine hK.out _ _ hc5 (fun hHeld => ?_)
          clear hK K
          try simp only [Act.put, List.setIfInBounds_toArray, List.set_cons_zero, List.set_cons_succ]
          refine wpAnyH_take (i := 18) (v := .bool true) rfl (by kernel_rfl) (by kernel_rfl) (by kernel_rfl) (fun _ _ _ h => (h : False).elim) (Or.inl ⟨by rfl, ?_⟩) hHeld ?_
          · intro w hSw
            try dsimp only at hSw
            go_simp
          change wpAnyH _ _ _ _ _ _ _ (Act.put _ (some 74) _) _
          try simp only [Act.put, List.setIfInBounds_toArray, List.set_cons_zero, List.set_cons_succ]
          refine wpAnyH_take (i := 19) (v := .bool true) rfl (by kernel_rfl) (by kernel_rfl) (by kernel_rfl) (fun _ _ _ h => (h : False).elim) (Or.inl ⟨by rfl, ?_⟩) hHeld ?_
          · intro w hSw
            try dsimp only at hSw
            go_simp
          change wpAnyH _ _ _ _ _ _ _ (Act.put _ (some 10) _) _
          try simp only [Act.put, List.setIfInBounds_toArray, List.set_cons_zero, List.set_cons_succ]
          refine wpAnyH_done (by kernel_rfl) ?_ _
          refine NoPanic.normal ?_
          clear hHeld hc3 hc4 hc5
          obtain ⟨he, hbt⟩ := HTAIL.out S' w5 ⟨HE5.out, HF5.out⟩
          have HE := Lib.hid he
          have HBT := Lib.hid hbt
          clear he hbt
          have HKN : Hid (∀ m, KeepAt w.heap.size (w5.drewN m) pb mb S') := fun m => HE.out.keep.below (below_drewN (Below.refl _ _) m)
          obtain ⟨lo, lc, hr⟩ := HE.out.ref
          have cr := hr.c0
          clear hr
          go_wp2_with fail
          go_quiet ((go_at_call 16; exact Calls.quiet_of_same ((len_any w.heap.size _ pb mb S' (HKN.out _)).mono fun _ _ ⟨q1, q2⟩ => ⟨q1, q2.symm⟩)))
          go_wp2_with fail
          go_roundw
          case rel => exact ⟨k + 1, S', by omega, by omega, by omega, by go_num, HE.out.below (below_drewN (Below.refl _ _) _), below_drewN HBT.out _⟩
          case measure => simp [intOf]; omega
        · by_cases d3 : q.d = 3
          · rw [d3] at c0
            clear d3
            obtain ⟨er, her⟩ : ∃ z : Bool, (findS S q.k).isSome = z := ⟨_, rfl⟩
            obtain ⟨S', hnew⟩ : ∃ z : List It, delS S q.k = z := ⟨_, rfl⟩
            have hS' : S'.length ≤ S.length := by rw [← hnew]; exact delS_le _ _
            have HER := Lib.hid her
            have HNEW := Lib.hid hnew
            clear her hnew
            go_wp2_with fail
            have HD3 : Hid (Env w.heap.size w3.drew pb mb rb S S) := HH3.out.below (Below.refl _ _).drew
            have hc3 := HFR.out w3.drew ((Fr.refl (fun j => j = mb ∨ j = rb) w3).drew)
            refine wp_region_noPanic ?_
            refine wp_region_held_drew (S := fun w' => w'.cell? ⟨ab, 1, none⟩ = some (.int .i64 q.k) ∧ w'.cell? ⟨ab, 2, none⟩ = some (.string q.u) ∧ w'.rangeAt ab 3 (gcs q.g).toList) (by kernel_rfl) ?_ (fun hHeld => ?_)
            · exact hc3
            refine wpAnyH_take (i := 0) (v := .pointer (some ⟨pb, 0, none⟩)) rfl (by kernel_rfl) (by kernel_rfl) (by kernel_rfl) (fun _ _ _ h => (h : False).elim) (Or.inl ⟨by rfl, ?_⟩) hHeld ?_
            · intro w hSw
              try dsimp only at hSw
              go_simp
            change wpAnyH _ _ _ _ _ _ _ (Act.put _ (some 77) _) _
            try simp only [Act.put, List.setIfInBounds_toArray, List.set_cons_zero, List.set_cons_succ]
            refine wpAnyH_take (i := 1) (v := .pointer (some ⟨ab, 1, none⟩)) rfl (by kernel_rfl) (by kernel_rfl) (by kernel_rfl) (fun _ _ _ h => (h : False).elim) (Or.inl ⟨by rfl, ?_⟩) hHeld ?_
            · intro w hSw
              try dsimp only at hSw
              go_simp
            change wpAnyH _ _ _ _ _ _ _ (Act.put _ (some 78) _) _
            try simp only [Act.put, List.setIfInBounds_toArray, List.set_cons_zero, List.set_cons_succ]
            refine wpAnyH_take (i := 2) (v := .int .i64 q.k) rfl (by kernel_rfl) (by kernel_rfl) (by kernel_rfl) (fun _ _ _ h => (h : False).elim) (Or.inl ⟨by rfl, ?_⟩) hHeld ?_
            · intro w hSw
              try dsimp only at hSw
              go_simp
            change wpAnyH _ _ _ _ _ _ _ (Act.put _ (some 79) _) _
            try simp only [Act.put, List.setIfInBounds_toArray, List.set_cons_zero, List.set_cons_succ]
            refine wpAnyH_take (i := 4) (v := .pointer (some ⟨rb, 0, none⟩)) rfl (by kernel_rfl) (by kernel_rfl) (by kernel_rfl) (fun _ _ _ h => (h : False).elim) (Or.inl ⟨by rfl, ?_⟩) hHeld ?_
            · intro w hSw
              try dsimp only at hSw
              go_simp
            change wpAnyH _ _ _ _ _ _ _ (Act.put _ (some 81) _) _
            try simp only [Act.put, List.setIfInBounds_toArray, List.set_cons_zero, List.set_cons_succ]
            refine wpAnyH_take (i := 5) (v := .pointer (some ⟨ab, 1, none⟩)) rfl (by kernel_rfl) (by kernel_rfl) (by kernel_rfl) (fun _ _ _ h => (h : False).elim) (Or.inl ⟨by rfl, ?_⟩) hHeld ?_
            · intro w hSw
              try dsimp only at hSw
              go_simp
            change wpAnyH _ _ _ _ _ _ _ (Act.put _ (some 82) _) _
            try simp only [Act.put, List.setIfInBounds_toArray, List.set_cons_zero, List.set_cons_succ]
            refine wpAnyH_take (i := 6) (v := .int .i64 q.k) rfl (by kernel_rfl) (by kernel_rfl) (by kernel_rfl) (fun _ _ _ h => (h : False).elim) (Or.inl ⟨by rfl, ?_⟩) hHeld ?_
            · intro w hSw
              try dsimp only at hSw
              go_simp
            change wpAnyH _ _ _ _ _ _ _ (Act.put _ (some 83) _) _
            try simp only [Act.put, List.setIfInBounds_toArray, List.set_cons_zero, List.set_cons_succ]
            refine wpAnyH_ready (rs := [3]) (by kernel_rfl) (by simp) ?_
            refine AllReadyH.cons rfl (fun K hK => ?_) AllReadyH.nil
            clear hHeld
            go_simp
            refine (drop_any w.heap.size w3.drew pb mb S q.k HD3.out.keep hin1).mono ?_
            rw [HER.out, HNEW.out]
            rintro e w4 ⟨rfl, hs4⟩
            have hst4 := HD3.out.kstep hs4
            have HE4 := Lib.hid hst4.1
            have HF4 : Hid (Fr (fun j => j = mb ∨ j = rb) w3 w4) := ((Fr.refl (fun j => j = mb ∨ j = rb) w3).drew).step hst4.2
            have hc4 := HFR.out w4 HF4.out
            clear hs4 hst4
            refine hK.out _ _ hc4 (fun hHeld => ?_)
            clear hK K
            try simp only [Act.put, List.setIfInBounds_toArray, List.set_cons_zero, List.set_cons_succ]
            refine wpAnyH_ready (rs := [7]) (by kernel_rfl) (by simp) ?_
            refine AllReadyH.cons rfl (fun K hK => ?_) AllReadyH.nil
            clear hHeld
            go_simp
            refine (rdrop_any w.heap.size w4 rb S q.k HE4.out.ref HE4.out.hB (by omega)).mono ?_
            rw [HER.out, HNEW.out]
            rintro e w5 ⟨rfl, hs5⟩
            have hst5 := HE4.out.dstep hs5
            have HE5 := Lib.hid hst5.1
            have HF5 : Hid (Fr (fun j => j = mb ∨ j = rb) w3 w5) := HF4.out.step hst5.2
            have hc5 := HFR.out w5 HF5.out
            clear hs5 hst5
            refine hK.out _ _ hc5 (fun hHeld => ?_)
            clear hK K
            try simp only [Act.put, List.setIfInBounds_toArray, List.set_cons_zero, List.set_cons_succ]
            refine wpAnyH_take (i := 8) (v := .bool true) rfl (by kernel_rfl) (by kernel_rfl) (by kernel_rfl) (fun _ _ _ h => (h : False).elim) (Or.inl ⟨by rfl, ?_⟩) hHeld ?_
            · intro w hSw
              try dsimp only at hSw
              go_simp
            change wpAnyH _ _ _ _ _ _ _ (Act.put _ (some 85) _) _
            try simp only [Act.put, List.setIfInBounds_toArray, List.set_cons_zero, List.set_cons_succ]
            refine wpAnyH_take (i := 9) (v := .bool true) rfl (by kernel_rfl) (by kernel_rfl) (by kernel_rfl) (fun _ _ _ h => (h : False).elim) (Or.inl ⟨by rfl, ?_⟩) hHeld ?_
            · intro w hSw
              try dsimp only at hSw
              go_simp
            change wpAnyH _ _ _ _ _ _ _ (Act.put _ (some 10) _) _
            try simp only [Act.put, List.setIfInBounds_toArray, List.set_cons_zero, List.set_cons_succ]
            refine wpAnyH_done (by kernel_rfl) ?_ _
            refine NoPanic.normal ?_
            clear hHeld hc3 hc4 hc5
            obtain ⟨he, hbt⟩ := HTAIL.out S' w5 ⟨HE5.out, HF5.out⟩
            have HE := Lib.hid he
            have HBT := Lib.hid hbt
            clear he hbt
            have HKN : Hid (∀ m, KeepAt w.heap.size (w5.drewN m) pb mb S') := fun m => HE.out.keep.below (below_drewN (Below.refl _ _) m)
            obtain ⟨lo, lc, hr⟩ := HE.out.ref
            have cr := hr.c0
            clear hr
            go_wp2_with fail
            go_quiet ((go_at_call 16; exact Calls.quiet_of_same ((len_any w.heap.size _ pb mb S' (HKN.out _)).mono fun _ _ ⟨q1, q2⟩ => ⟨q1, q2.symm⟩)))
            go_wp2_with fail
            go_roundw
            case rel => exact ⟨k + 1, S', by omega, by omega, by omega, by go_num, HE.out.below (below_drewN (Below.refl _ _) _), below_drewN HBT.out _⟩
            case measure => simp [intOf]; omega
          · have e1 : (q.d == 1) = false := by simpa using d1
            have e2 : (q.d == 2) = false := by simpa using d2
            have e3 : (q.d == 3) = false := by simpa using d3
            clear d1 d2 d3
            have HE : Hid (Env w.heap.size w3 pb mb rb S S) := HH3.out
            have HBT : Hid (Below w.heap.size w w3) := HB3.out
            have HKN : Hid (∀ m, KeepAt w.heap.size (w3.drewN m) pb mb S) := fun m => HE.out.keep.below (below_drewN (Below.refl _ _) m)
            obtain ⟨lo, lc, hr⟩ := HE.out.ref
            have cr := hr.c0
            clear hr
            go_wp2_with fail
            go_quiet ((go_at_call 16; exact Calls.quiet_of_same ((len_any w.heap.size _ pb mb S (HKN.out _)).mono fun _ _ ⟨q1, q2⟩ => ⟨q1, q2.symm⟩)))
            go_wp2_with fail
            go_roundw
            case rel => exact ⟨k + 1, S, by omega, by omega, by omega, by go_num, HE.out.below (below_drewN (Below.refl _ _) _), below_drewN HBT.out _⟩
            case measure => simp [intOf]; omega
    · have hkl2 : S.length ≤ 60 := by omega
      by_cases hend : k < n
      all_goals
        have hend2 : k < n → ¬ k < 60 := by omega
        clear hlt
        first | (have hend3 := hend2 hend; clear hend2) | clear hend2
        go_wp2_with fail
        go_ret3
        exact ⟨pb, mb, rb, S, rfl, hh.out, hkl2, hb.out⟩
end Go.Proofs.Ytbgjajhnjkldkaa
