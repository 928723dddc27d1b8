/- Contracts of Ints and of act, by walks. -/
import Derived.Test.YtmgdbilmfialkaaW16
namespace Go.Proofs.Ytmgdbilmfialkaa
open Go.RowKit Go.WideShapes Go.Maps
attribute [local go_sem ↓] Go.wp_at_zero Go.wp_at_succ

/-- Ints, at the same numbers. -/
theorem ints_same (w : World) (ao bo : Option Addr) (n c c' : Nat) (zs : List Int) (ha : Src w 1 ao n (ints zs)) (hb : Src w 1 bo n (ints zs)) (hn : n ≤ 9223372036854775806) :
    Calls Try.prog 34 #[.slice ao n c, .slice bo n c'] w fun e w' => e = .returned (.bool true) ∧ Below w.heap.size w w' := by
  have HA := Lib.hid ha
  have HB := Lib.hid hb
  clear ha hb
  go_enter Try.func34, Try.ntmps34
  go_wp2_with fail
  go_loopw [4, 5] (fun _ s5 wr => ∃ k : Nat, k ≤ n ∧ s5 = .int .i64 k ∧ Hid (Fr none0 w wr)) (fun _ s _ => n - (intOf s).toNat)
  case atStart => exact ⟨0, Nat.zero_le _, rfl, Fr.refl _ _⟩
  case round =>
    obtain ⟨k, hk, rfl, hf⟩ := hrel
    by_cases hlt : k < n
    · have hk2 : (ints zs)[k]? = some ((ints zs)[k]'(by rw [HA.out.len1]; exact hlt)) := List.getElem?_eq_getElem _
      obtain ⟨z, _, hz⟩ := List.mem_map.1 (List.mem_of_getElem? hk2)
      rw [← hz] at hk2
      obtain ⟨b, o, rfl, hbl, hc⟩ := HA.out.2 _ _ hk2
      obtain ⟨b', o', rfl, hbl', hc'⟩ := HB.out.2 _ _ hk2
      have d0 : wr.cell? ⟨b, o + k, none⟩ = some (.int .i64 z) := (hf.out.cell (p := ⟨b, _, none⟩) hbl (fun h => h)).trans hc
      have d1 : wr.cell? ⟨b', o' + k, none⟩ = some (.int .i64 z) := (hf.out.cell (p := ⟨b', _, none⟩) hbl' (fun h => h)).trans hc'
      have i1 : (0 : Int) ≤ (k : Int) := by omega
      have i2 : (k : Int) < (n : Int) := by omega
      clear hc hc' hz hk2
      go_wp2_with fail
      go_quiet (fail)
      go_wp2_with fail
      go_roundw
      case rel => exact ⟨k + 1, by omega, by go_num, hf.out.drewN _⟩
      case measure => simp [intOf]; omega
    · go_wp2_with fail
      go_ret
      exact ⟨rfl, hf.out.below (Nat.le_refl _) (fun _ h => h.elim)⟩

section
variable (B : Nat) (w : World) (pb mb rb : Nat) (last : Int) (A : List Ab) (last2 : Int) (A2 : List Ab) (own : Own) (k way : Int) (bo : Option Addr) (bn bc : Nat) (bs : List Value) (h : Env2 B w pb mb rb last A last2 A2 own)
include h
theorem env2_send (h1 : -9223372036854775808 ≤ k) (h2 : k ≤ 9223372036854775807) (hb : Src w 1 bo bn bs) (hy : AllB bs) (hn : bn ≤ 9223372036854775807) :
    Calls Try.prog 11 #[.pointer (some ⟨pb, 0, none⟩), .int .i64 k, .int .i64 way, .slice bo bn bc] w fun e w' => e = .returned (.int .i64 (sendR A k way bs).1) ∧ Stp2 B pb mb rb last (sendR A k way bs).2 last2 A2 own w w' :=
  (env_send B w pb mb last A own k way bo bn bc bs h.env h1 h2 hb hy hn).mono fun _ _ ⟨he, ha⟩ => ⟨he, h.net ha⟩
theorem env2_rsend (hb : Src w 1 bo bn bs) (hy : AllB bs) :
    Calls Try.prog 30 #[.pointer (some ⟨rb, 0, none⟩), .int .i64 k, .int .i64 way, .slice bo bn bc] w fun e w' => e = .returned (.int .i64 (sendR A2 k way bs).1) ∧ Stp2 B pb mb rb last A last2 (sendR A2 k way bs).2 own w w' :=
  (rsend_any B w rb last2 A2 own k way bo bn bc bs h.ref h.env.hB hb hy).mono fun _ _ ⟨he, ha⟩ => ⟨he, h.docAft ha⟩
theorem env2_cut (h1 : -9223372036854775808 ≤ k) (h2 : k ≤ 9223372036854775807) :
    Calls Try.prog 21 #[.pointer (some ⟨pb, 0, none⟩), .int .i64 k] w fun e w' => e = .returned (.int .i64 (cutR A k).1) ∧ Stp2 B pb mb rb last (cutR A k).2 last2 A2 own w w' :=
  (env_cut B w pb mb last A own k h.env h1 h2).mono fun _ _ ⟨he, ha⟩ => ⟨he, h.net ha⟩
theorem env2_rcut : Calls Try.prog 32 #[.pointer (some ⟨rb, 0, none⟩), .int .i64 k] w fun e w' => e = .returned (.int .i64 (cutR A2 k).1) ∧ Stp2 B pb mb rb last A last2 (cutR A2 k).2 own w w' :=
  (rcut_any B w rb last2 A2 own k h.ref h.env.hB).mono fun _ _ ⟨he, ha⟩ => ⟨he, h.docAft ha⟩
theorem env2_link (hlast : last < 1000000) :
    Calls Try.prog 10 #[.pointer (some ⟨pb, 0, none⟩)] w fun e w' => e = .returned (.tuple #[.int .i64 (linkR A last).1, .int .i64 (linkR A last).2.1]) ∧ Stp2 B pb mb rb (linkR A last).2.2.1 (linkR A last).2.2.2 last2 A2 own w w' :=
  (env_link B w pb mb last A own h.env hlast).mono fun _ _ ⟨he, ha⟩ => ⟨he, h.net ha⟩
theorem env2_rlink (hlast : last2 < 1000000) :
    Calls Try.prog 29 #[.pointer (some ⟨rb, 0, none⟩)] w fun e w' => e = .returned (.tuple #[.int .i64 (linkR A2 last2).1, .int .i64 (linkR A2 last2).2.1]) ∧ Stp2 B pb mb rb last A (linkR A2 last2).2.2.1 (linkR A2 last2).2.2.2 own w w' :=
  (rlink_any B w rb last2 A2 own h.ref h.env.hB hlast).mono fun _ _ ⟨he, ha⟩ => ⟨he, h.docAft ha⟩
end
theorem F2.back {own own1 : Own} {k n : Nat} (ho : ∀ i, i < n → own1 i = own i) (hk : k < n) (h : F2 own1 k) : F2 own k := by
  unfold F2 at h ⊢
  rw [ho k hk] at h
  exact h
theorem Stp2.comp {B pb mb rb : Nat} {last last2 : Int} {A A2 : List Ab} {own own1 : Own} {w w1 w2 : World} (hf : Fr (F2 own) w w1) (hb : Below B w w1) (ho : ∀ i, i < w.heap.size → own1 i = own i) (hs : Stp2 B pb mb rb last A last2 A2 own1 w1 w2) :
    Stp2 B pb mb rb last A last2 A2 own w w2 := by
  obtain ⟨own2, he, hf2, hb2, ho2⟩ := hs
  have hsz := hf.size
  exact ⟨own2, he, hf.trans hf2 (fun k hk h => F2.back ho hk h), hb.trans hb2, fun i hi => (ho2 i (by omega)).trans (ho i hi)⟩
theorem Stp2.below {B pb mb rb : Nat} {last last2 : Int} {A A2 : List Ab} {own : Own} {w w1 w2 : World} (hb : Below w.heap.size w w1) (hB : B ≤ w.heap.size) (hs : Stp2 B pb mb rb last A last2 A2 own w1 w2) : Stp2 B pb mb rb last A last2 A2 own w w2 :=
  hs.comp (Fr.of_below hb) (hb.mono hB) (fun _ _ => rfl)

theorem Src.kept {w w' : World} {own : Own} {bo : Option Addr} {bn : Nat} {bs : List Value} (h : Src w 1 bo bn bs) (ho : bs = [] ∨ Out own bo) (hf : Fr (F2 own) w w') : Src w' 1 bo bn bs := by
  rcases ho with rfl | ho
  · exact ⟨h.1, fun j u hj => by simp at hj⟩
  · exact h.fr hf (fun k hk _ hq => by unfold F2 at hq; rw [ho k hk] at hq; simp at hq)
def ActPost (B pb mb rb : Nat) (last : Int) (own : Own) (w : World) (e : Ending) (w' : World) : Prop :=
  e = .returned (.bool true) ∧ ∃ last' A', last' ≤ last + 1 ∧ Stp2 B pb mb rb last' A' last' A' own w w'

set_option maxHeartbeats 4000000 in
theorem act_send (B : Nat) (w : World) (pb mb rb : Nat) (last : Int) (A : List Ab) (own : Own) (k way most : Int) (bo : Option Addr) (bn bc : Nat) (bs : List Value) (h : Env2 B w pb mb rb last A last A own) (h1 : -9223372036854775808 ≤ k) (h2 : k ≤ 9223372036854775807) (hb : Src w 1 bo bn bs) (hy : AllB bs) (hn : bn ≤ 9223372036854775807) (hout : bs = [] ∨ Out own bo) :
    Calls Try.prog 26 #[.pointer (some ⟨pb, 0, none⟩), .pointer (some ⟨rb, 0, none⟩), .agg #[.int .i64 2, .int .i64 k, .int .i64 way, .int .i64 most, .slice bo bn bc]] w (ActPost B pb mb rb last own w) := by
  have hbl : Below w.heap.size w (w.alloc (.cells #[.int .i64 2, .int .i64 k, .int .i64 way, .int .i64 most, .slice bo bn bc] 66)) := (Below.refl _ _).alloc (Nat.le_refl _) _
  have H1 := Lib.hid (h.below hbl)
  have HB1 := Lib.hid hbl
  have HBB := Lib.hid h.env.hB
  have HA : Hid (Blk (w.alloc (.cells #[.int .i64 2, .int .i64 k, .int .i64 way, .int .i64 most, .slice bo bn bc] 66)) w.heap.size 66 #[.int .i64 2, .int .i64 k, .int .i64 way, .int .i64 most, .slice bo bn bc]) := Blk.new _ _ _
  have HX : Hid (own w.heap.size = (0, 9)) := h.env.new _ (Nat.le_refl _)
  have HS1 : Hid (Src (w.alloc (.cells #[.int .i64 2, .int .i64 k, .int .i64 way, .int .i64 most, .slice bo bn bc] 66)) 1 bo bn bs) := hb.below hbl (fun _ _ h => h)
  have HOUT := Lib.hid hout
  have HY := Lib.hid hy
  obtain ⟨z, hz⟩ : ∃ z : Int, (sendR A k way bs).1 = z := ⟨_, rfl⟩
  obtain ⟨N, hN⟩ : ∃ N, (sendR A k way bs).2 = N := ⟨_, rfl⟩
  have HZ := Lib.hid hz
  have HNEW := Lib.hid hN
  clear hz hN h hbl hb hout hy
  go_enter Try.func26, Try.ntmps26
  go_wp2_with fail
  generalize w.alloc (.cells #[.int .i64 2, .int .i64 k, .int .i64 way, .int .i64 most, .slice bo bn bc] 66) = w1 at *
  have k1 : w1.cell? ⟨w.heap.size, 1, none⟩ = some (.int .i64 k) := HA.out.cell 1
  have k2 : w1.cell? ⟨w.heap.size, 2, none⟩ = some (.int .i64 way) := HA.out.cell 2
  have k4 : w1.cell? ⟨w.heap.size, 4, none⟩ = some (.slice bo bn bc) := HA.out.cell 4
  have HBd : Hid (Env2 B w1.drew pb mb rb last A last A own) := H1.out.below (Below.refl _ _).drew
  have HBW : Hid (Below w.heap.size w w1.drew) := HB1.out.drew
  have HAd : Hid (Blk w1.drew w.heap.size 66 #[.int .i64 2, .int .i64 k, .int .i64 way, .int .i64 most, .slice bo bn bc]) := HA.out.drew
  have HSd : Hid (Src w1.drew 1 bo bn bs) := HS1.out.fr ((Fr.refl none0 w1).drew) (fun _ _ _ h => h)
  go_region_held3 (fun w' => w'.cell? ⟨w.heap.size, 1, none⟩ = some (.int .i64 k) ∧ w'.cell? ⟨w.heap.size, 2, none⟩ = some (.int .i64 way) ∧ w'.cell? ⟨w.heap.size, 4, none⟩ = some (.slice bo bn bc)) (go_keep) (first
    | (go_at_call 11
       first
       | (refine (env2_send B w1.drew pb mb rb last A last A own k way bo bn bc bs HBd.out h1 h2 HSd.out HY.out hn).mono ?_
          rw [HZ.out, HNEW.out]
          rintro e w2 ⟨rfl, own2, hq2, hf2, hb2, ho2⟩
          have hk2 : Blk w2 w.heap.size 66 #[.int .i64 2, .int .i64 k, .int .i64 way, .int .i64 most, .slice bo bn bc] := HAd.out.fr hf2 (by unfold F2; rw [HX.out]; simp)
          have k1' : w2.cell? ⟨w.heap.size, 1, none⟩ = some (.int .i64 k) := hk2.cell 1
          have k2' : w2.cell? ⟨w.heap.size, 2, none⟩ = some (.int .i64 way) := hk2.cell 2
          have k4' : w2.cell? ⟨w.heap.size, 4, none⟩ = some (.slice bo bn bc) := hk2.cell 4
          have HK2 := Lib.hid hk2
          have HX2 : Hid (own2 w.heap.size = (0, 9)) := (ho2 _ HAd.out.lt).trans HX.out
          have HS2 : Hid (Src w2 1 bo bn bs) := HSd.out.kept HOUT.out hf2
          have HQ2 := Lib.hid hq2
          have HF2 := Lib.hid hf2
          have HB2 := Lib.hid hb2
          have HO2 := Lib.hid ho2
          clear hk2 hq2 hf2 hb2 ho2)
       | (refine (env2_send B _ pb mb rb last A last N own2 k way bo bn bc bs HR2.out h1 h2 HS2.out HY.out hn).mono ?_
          rw [HZ.out, HNEW.out]
          rintro e w3 ⟨rfl, hs⟩
          have HP := Lib.hid ((Stp2.comp HF2.out HB2.out HO2.out hs).below HBW.out HBB.out)
          obtain ⟨own3, _, hf3, _, _⟩ := hs
          have hk3 : Blk w3 w.heap.size 66 #[.int .i64 2, .int .i64 k, .int .i64 way, .int .i64 most, .slice bo bn bc] := HK2.out.fr hf3 (by unfold F2; rw [HX2.out]; simp)
          have k1'' : w3.cell? ⟨w.heap.size, 1, none⟩ = some (.int .i64 k) := hk3.cell 1
          have k2'' : w3.cell? ⟨w.heap.size, 2, none⟩ = some (.int .i64 way) := hk3.cell 2
          have k4'' : w3.cell? ⟨w.heap.size, 4, none⟩ = some (.slice bo bn bc) := hk3.cell 4
          clear hk3 hf3))
    | (go_at_call 30
       first
       | (refine (env2_rsend B w1.drew pb mb rb last A last A own k way bo bn bc bs HBd.out HSd.out HY.out).mono ?_
          rw [HZ.out, HNEW.out]
          rintro e w2 ⟨rfl, own2, hq2, hf2, hb2, ho2⟩
          have hk2 : Blk w2 w.heap.size 66 #[.int .i64 2, .int .i64 k, .int .i64 way, .int .i64 most, .slice bo bn bc] := HAd.out.fr hf2 (by unfold F2; rw [HX.out]; simp)
          have k1' : w2.cell? ⟨w.heap.size, 1, none⟩ = some (.int .i64 k) := hk2.cell 1
          have k2' : w2.cell? ⟨w.heap.size, 2, none⟩ = some (.int .i64 way) := hk2.cell 2
          have k4' : w2.cell? ⟨w.heap.size, 4, none⟩ = some (.slice bo bn bc) := hk2.cell 4
          have HK2 := Lib.hid hk2
          have HX2 : Hid (own2 w.heap.size = (0, 9)) := (ho2 _ HAd.out.lt).trans HX.out
          have HS2 : Hid (Src w2 1 bo bn bs) := HSd.out.kept HOUT.out hf2
          have HR2 := Lib.hid hq2
          have HF2 := Lib.hid hf2
          have HB2 := Lib.hid hb2
          have HO2 := Lib.hid ho2
          clear hk2 hq2 hf2 hb2 ho2)
       | (refine (env2_rsend B _ pb mb rb last N last A own2 k way bo bn bc bs HQ2.out HS2.out HY.out).mono ?_
          rw [HZ.out, HNEW.out]
          rintro e w3 ⟨rfl, hs⟩
          have HP := Lib.hid ((Stp2.comp HF2.out HB2.out HO2.out hs).below HBW.out HBB.out)
          obtain ⟨own3, _, hf3, _, _⟩ := hs
          have hk3 : Blk w3 w.heap.size 66 #[.int .i64 2, .int .i64 k, .int .i64 way, .int .i64 most, .slice bo bn bc] := HK2.out.fr hf3 (by unfold F2; rw [HX2.out]; simp)
          have k1'' : w3.cell? ⟨w.heap.size, 1, none⟩ = some (.int .i64 k) := hk3.cell 1
          have k2'' : w3.cell? ⟨w.heap.size, 2, none⟩ = some (.int .i64 way) := hk3.cell 2
          have k4'' : w3.cell? ⟨w.heap.size, 4, none⟩ = some (.slice bo bn bc) := hk3.cell 4
          clear hk3 hf3)))
  all_goals
    go_wp2_with fail
    go_ret
    exact ⟨rfl, last, N, by omega, HP.out⟩

set_option maxHeartbeats 4000000 in
theorem act_cut (B : Nat) (w : World) (pb mb rb : Nat) (last : Int) (A : List Ab) (own : Own) (k way most : Int) (bo : Option Addr) (bn bc : Nat) (bs : List Value) (h : Env2 B w pb mb rb last A last A own) (h1 : -9223372036854775808 ≤ k) (h2 : k ≤ 9223372036854775807) (hb : Src w 1 bo bn bs) (hout : bs = [] ∨ Out own bo) :
    Calls Try.prog 26 #[.pointer (some ⟨pb, 0, none⟩), .pointer (some ⟨rb, 0, none⟩), .agg #[.int .i64 4, .int .i64 k, .int .i64 way, .int .i64 most, .slice bo bn bc]] w (ActPost B pb mb rb last own w) := by
  have hbl : Below w.heap.size w (w.alloc (.cells #[.int .i64 4, .int .i64 k, .int .i64 way, .int .i64 most, .slice bo bn bc] 66)) := (Below.refl _ _).alloc (Nat.le_refl _) _
  have H1 := Lib.hid (h.below hbl)
  have HB1 := Lib.hid hbl
  have HBB := Lib.hid h.env.hB
  have HA : Hid (Blk (w.alloc (.cells #[.int .i64 4, .int .i64 k, .int .i64 way, .int .i64 most, .slice bo bn bc] 66)) w.heap.size 66 #[.int .i64 4, .int .i64 k, .int .i64 way, .int .i64 most, .slice bo bn bc]) := Blk.new _ _ _
  have HX : Hid (own w.heap.size = (0, 9)) := h.env.new _ (Nat.le_refl _)
  have HS1 : Hid (Src (w.alloc (.cells #[.int .i64 4, .int .i64 k, .int .i64 way, .int .i64 most, .slice bo bn bc] 66)) 1 bo bn bs) := hb.below hbl (fun _ _ h => h)
  have HOUT := Lib.hid hout

  obtain ⟨z, hz⟩ : ∃ z : Int, (cutR A k).1 = z := ⟨_, rfl⟩
  obtain ⟨N, hN⟩ : ∃ N, (cutR A k).2 = N := ⟨_, rfl⟩
  have HZ := Lib.hid hz
  have HNEW := Lib.hid hN
  clear hz hN h hbl hb hout
  go_enter Try.func26, Try.ntmps26
  go_wp2_with fail
  generalize w.alloc (.cells #[.int .i64 4, .int .i64 k, .int .i64 way, .int .i64 most, .slice bo bn bc] 66) = w1 at *
  have k1 : w1.cell? ⟨w.heap.size, 1, none⟩ = some (.int .i64 k) := HA.out.cell 1
  have HBd : Hid (Env2 B w1.drew pb mb rb last A last A own) := H1.out.below (Below.refl _ _).drew
  have HBW : Hid (Below w.heap.size w w1.drew) := HB1.out.drew
  have HAd : Hid (Blk w1.drew w.heap.size 66 #[.int .i64 4, .int .i64 k, .int .i64 way, .int .i64 most, .slice bo bn bc]) := HA.out.drew
  have HSd : Hid (Src w1.drew 1 bo bn bs) := HS1.out.fr ((Fr.refl none0 w1).drew) (fun _ _ _ h => h)
  go_region_held3 (fun w' => w'.cell? ⟨w.heap.size, 1, none⟩ = some (.int .i64 k)) (go_keep) (first
    | (go_at_call 21
       first
       | (refine (env2_cut B w1.drew pb mb rb last A last A own k HBd.out h1 h2).mono ?_
          rw [HZ.out, HNEW.out]
          rintro e w2 ⟨rfl, own2, hq2, hf2, hb2, ho2⟩
          have hk2 : Blk w2 w.heap.size 66 #[.int .i64 4, .int .i64 k, .int .i64 way, .int .i64 most, .slice bo bn bc] := HAd.out.fr hf2 (by unfold F2; rw [HX.out]; simp)
          have k1' : w2.cell? ⟨w.heap.size, 1, none⟩ = some (.int .i64 k) := hk2.cell 1
          have HK2 := Lib.hid hk2
          have HX2 : Hid (own2 w.heap.size = (0, 9)) := (ho2 _ HAd.out.lt).trans HX.out
          have HS2 : Hid (Src w2 1 bo bn bs) := HSd.out.kept HOUT.out hf2
          have HQ2 := Lib.hid hq2
          have HF2 := Lib.hid hf2
          have HB2 := Lib.hid hb2
          have HO2 := Lib.hid ho2
          clear hk2 hq2 hf2 hb2 ho2)
       | (refine (env2_cut B _ pb mb rb last A last N own2 k HR2.out h1 h2).mono ?_
          rw [HZ.out, HNEW.out]
          rintro e w3 ⟨rfl, hs⟩
          have HP := Lib.hid ((Stp2.comp HF2.out HB2.out HO2.out hs).below HBW.out HBB.out)
          obtain ⟨own3, _, hf3, _, _⟩ := hs
          have hk3 : Blk w3 w.heap.size 66 #[.int .i64 4, .int .i64 k, .int .i64 way, .int .i64 most, .slice bo bn bc] := HK2.out.fr hf3 (by unfold F2; rw [HX2.out]; simp)
          have k1'' : w3.cell? ⟨w.heap.size, 1, none⟩ = some (.int .i64 k) := hk3.cell 1
          clear hk3 hf3))
    | (go_at_call 32
       first
       | (refine (env2_rcut B w1.drew pb mb rb last A last A own k HBd.out).mono ?_
          rw [HZ.out, HNEW.out]
          rintro e w2 ⟨rfl, own2, hq2, hf2, hb2, ho2⟩
          have hk2 : Blk w2 w.heap.size 66 #[.int .i64 4, .int .i64 k, .int .i64 way, .int .i64 most, .slice bo bn bc] := HAd.out.fr hf2 (by unfold F2; rw [HX.out]; simp)
          have k1' : w2.cell? ⟨w.heap.size, 1, none⟩ = some (.int .i64 k) := hk2.cell 1
          have HK2 := Lib.hid hk2
          have HX2 : Hid (own2 w.heap.size = (0, 9)) := (ho2 _ HAd.out.lt).trans HX.out
          have HS2 : Hid (Src w2 1 bo bn bs) := HSd.out.kept HOUT.out hf2
          have HR2 := Lib.hid hq2
          have HF2 := Lib.hid hf2
          have HB2 := Lib.hid hb2
          have HO2 := Lib.hid ho2
          clear hk2 hq2 hf2 hb2 ho2)
       | (refine (env2_rcut B _ pb mb rb last N last A own2 k HQ2.out).mono ?_
          rw [HZ.out, HNEW.out]
          rintro e w3 ⟨rfl, hs⟩
          have HP := Lib.hid ((Stp2.comp HF2.out HB2.out HO2.out hs).below HBW.out HBB.out)
          obtain ⟨own3, _, hf3, _, _⟩ := hs
          have hk3 : Blk w3 w.heap.size 66 #[.int .i64 4, .int .i64 k, .int .i64 way, .int .i64 most, .slice bo bn bc] := HK2.out.fr hf3 (by unfold F2; rw [HX2.out]; simp)
          have k1'' : w3.cell? ⟨w.heap.size, 1, none⟩ = some (.int .i64 k) := hk3.cell 1
          clear hk3 hf3)))
  all_goals
    go_wp2_with fail
    go_ret
    exact ⟨rfl, last, N, by omega, HP.out⟩
end Go.Proofs.Ytmgdbilmfialkaa
