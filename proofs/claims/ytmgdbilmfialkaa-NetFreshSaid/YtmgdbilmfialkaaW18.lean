/- Contract of act, whole, of same and of played, by walks. -/
import Derived.Test.YtmgdbilmfialkaaW17
namespace Go.Proofs.Ytmgdbilmfialkaa
open Go.RowKit Go.WideShapes Go.Maps

theorem linkR_last (A : List Ab) (last : Int) : (linkR A last).2.2.1 ≤ last + 1 := by unfold linkR; split <;> (dsimp only; omega)
set_option maxHeartbeats 4000000 in
theorem act_link (B : Nat) (w : World) (pb mb rb : Nat) (last : Int) (A : List Ab) (own : Own) (k way most : Int) (bo : Option Addr) (bn bc : Nat) (h : Env2 B w pb mb rb last A last A own) (hlast : last < 1000000) :
    Calls Try.prog 26 #[.pointer (some ⟨pb, 0, none⟩), .pointer (some ⟨rb, 0, none⟩), .agg #[.int .i64 1, .int .i64 k, .int .i64 way, .int .i64 most, .slice bo bn bc]] w (ActPost B pb mb rb last own w) := by
  have hbl : Below w.heap.size w (w.alloc (.cells #[.int .i64 1, .int .i64 k, .int .i64 way, .int .i64 most, .slice bo bn bc] 66)) := (Below.refl _ _).alloc (Nat.le_refl _) _
  have H1 := Lib.hid (h.below hbl)
  have HB1 := Lib.hid hbl
  have HBB := Lib.hid h.env.hB
  obtain ⟨z, hz⟩ : ∃ z : Int, (linkR A last).1 = z := ⟨_, rfl⟩
  obtain ⟨er, her⟩ : ∃ z : Int, (linkR A last).2.1 = z := ⟨_, rfl⟩
  obtain ⟨l, hl⟩ : ∃ z : Int, (linkR A last).2.2.1 = z := ⟨_, rfl⟩
  obtain ⟨N, hN⟩ : ∃ N, (linkR A last).2.2.2 = N := ⟨_, rfl⟩
  have hle : l ≤ last + 1 := by rw [← hl]; exact linkR_last _ _
  have HZ := Lib.hid hz
  have HER := Lib.hid her
  have HL := Lib.hid hl
  have HNEW := Lib.hid hN
  clear hz her hl hN h hbl
  go_enter Try.func26, Try.ntmps26
  go_wp2_with fail
  generalize w.alloc (.cells #[.int .i64 1, .int .i64 k, .int .i64 way, .int .i64 most, .slice bo bn bc] 66) = w1 at *
  refine (env2_link B w1 pb mb rb last A last A own H1.out hlast).mono ?_
  rw [HZ.out, HER.out, HL.out, HNEW.out]
  rintro e w2 ⟨rfl, own2, hq2, hf2, hb2, ho2⟩
  have HQ2 := Lib.hid hq2
  have HF2 := Lib.hid hf2
  have HB2 := Lib.hid hb2
  have HO2 := Lib.hid ho2
  clear hq2 hf2 hb2 ho2
  go_wp2_with fail
  refine (env2_rlink B w2 pb mb rb l N last A own2 HQ2.out hlast).mono ?_
  rw [HZ.out, HER.out, HL.out, HNEW.out]
  rintro e w3 ⟨rfl, hs⟩
  have HP := Lib.hid ((Stp2.comp HF2.out HB2.out HO2.out hs).below HB1.out HBB.out)
  clear hs
  go_wp2_with fail
  go_ret
  exact ⟨rfl, l, N, hle, HP.out⟩

theorem Env2.rng {B : Nat} {w : World} {pb mb rb : Nat} {last last2 : Int} {A A2 : List Ab} {own : Own} (h : Env2 B w pb mb rb last A last2 A2 own) : ∀ x ∈ A, 1 ≤ x.k ∧ x.k ≤ 1000000 := by
  obtain ⟨L, e, h'⟩ := h.env.net
  subst e
  intro x hx
  obtain ⟨y, hy, rfl⟩ := List.mem_map.1 hx
  have h1 := h'.rng y hy
  have h2 := h'.last1
  show 1 ≤ y.k ∧ y.k ≤ 1000000
  omega
theorem Env.len {B : Nat} {w : World} {pb mb : Nat} {last : Int} {A : List Ab} {own : Own} (h : Env B w pb mb last A own) : A.length ≤ 64 := by
  obtain ⟨L, e, h'⟩ := h.net
  subst e
  rw [List.length_map]
  exact h'.len
/-- What Move can move. -/
theorem moveR_len {B : Nat} {w : World} {pb mb : Nat} {last : Int} {A : List Ab} {own : Own} (h : NetA B w pb mb last A own) (k way most : Int) : (moveR A k way most).1.length ≤ 4194304 := by
  obtain ⟨L, rfl, h⟩ := h
  cases hf : findL L k with
  | none => rw [move_none hf]; simp
  | some x =>
    rw [move_some hf]
    have hX := h.each x (findL_mem hf).1
    have l0 := hX.l0
    have l1 := hX.l1
    by_cases h0 : way = 0
    · rw [if_pos h0]
      show (x.b0.take _).length ≤ _
      rw [List.length_take]; omega
    · rw [if_neg h0]
      by_cases h1 : way = 1
      · rw [if_pos h1]
        show (x.b1.take _).length ≤ _
        rw [List.length_take]; omega
      · rw [if_neg h1]; simp
set_option maxHeartbeats 4000000 in
theorem act_move (B : Nat) (w : World) (pb mb rb : Nat) (last : Int) (A : List Ab) (own : Own) (k way most : Int) (bo : Option Addr) (bn bc : Nat) (h : Env2 B w pb mb rb last A last A own) (h1 : -9223372036854775808 ≤ k) (h2 : k ≤ 9223372036854775807) :
    Calls Try.prog 26 #[.pointer (some ⟨pb, 0, none⟩), .pointer (some ⟨rb, 0, none⟩), .agg #[.int .i64 3, .int .i64 k, .int .i64 way, .int .i64 most, .slice bo bn bc]] w (ActPost B pb mb rb last own w) := by
  have hbl : Below w.heap.size w (w.alloc (.cells #[.int .i64 3, .int .i64 k, .int .i64 way, .int .i64 most, .slice bo bn bc] 66)) := (Below.refl _ _).alloc (Nat.le_refl _) _
  have H1 := Lib.hid (h.below hbl)
  have HB1 := Lib.hid hbl
  have HBB := Lib.hid h.env.hB
  have HA : Hid (Blk (w.alloc (.cells #[.int .i64 3, .int .i64 k, .int .i64 way, .int .i64 most, .slice bo bn bc] 66)) w.heap.size 66 #[.int .i64 3, .int .i64 k, .int .i64 way, .int .i64 most, .slice bo bn bc]) := Blk.new _ _ _
  have HX : Hid (own w.heap.size = (0, 9)) := h.env.new _ (Nat.le_refl _)
  obtain ⟨xs, hxs⟩ : ∃ z, (moveR A k way most).1 = z := ⟨_, rfl⟩
  obtain ⟨er, her⟩ : ∃ z : Int, (moveR A k way most).2.1 = z := ⟨_, rfl⟩
  obtain ⟨N, hN⟩ : ∃ N, (moveR A k way most).2.2 = N := ⟨_, rfl⟩
  have hxl : xs.length ≤ 4194304 := by rw [← hxs]; exact moveR_len h.env.net k way most
  have HXS := Lib.hid hxs
  have HER := Lib.hid her
  have HNEW := Lib.hid hN
  clear hxs her hN h hbl
  go_enter Try.func26, Try.ntmps26
  go_wp2_with fail
  generalize w.alloc (.cells #[.int .i64 3, .int .i64 k, .int .i64 way, .int .i64 most, .slice bo bn bc] 66) = w1 at *
  have k1 : w1.cell? ⟨w.heap.size, 1, none⟩ = some (.int .i64 k) := HA.out.cell 1
  have k2 : w1.cell? ⟨w.heap.size, 2, none⟩ = some (.int .i64 way) := HA.out.cell 2
  have k3 : w1.cell? ⟨w.heap.size, 3, none⟩ = some (.int .i64 most) := HA.out.cell 3
  go_wp2_with fail
  refine (env2_move B w1 pb mb rb last A last A own k way most H1.out h1 h2).mono ?_
  rw [HXS.out, HER.out, HNEW.out]
  rintro e w2 ⟨ro, rc, own2, rfl, hr2, hy2, hout2, hq2, hf2, hb2, ho2⟩
  have hk2 : Blk w2 w.heap.size 66 #[.int .i64 3, .int .i64 k, .int .i64 way, .int .i64 most, .slice bo bn bc] := HA.out.fr hf2 (by unfold F2; rw [HX.out]; simp)
  have k1' : w2.cell? ⟨w.heap.size, 1, none⟩ = some (.int .i64 k) := hk2.cell 1
  have k2' : w2.cell? ⟨w.heap.size, 2, none⟩ = some (.int .i64 way) := hk2.cell 2
  have k3' : w2.cell? ⟨w.heap.size, 3, none⟩ = some (.int .i64 most) := hk2.cell 3
  have HR2 := Lib.hid hr2
  have HY2 := Lib.hid hy2
  have HU2 := Lib.hid hout2
  have HQ2 := Lib.hid hq2
  have HF2 := Lib.hid hf2
  have HB2 := Lib.hid hb2
  have HO2 := Lib.hid ho2
  clear hr2 hy2 hout2 hq2 hf2 hb2 ho2 hk2
  go_wp2_with fail
  refine (env2_rmove B w2 pb mb rb last N last A own2 k way most HQ2.out).mono ?_
  rw [HXS.out, HER.out, HNEW.out]
  rintro e w3 ⟨qo, qc, own3, rfl, hr3, hy3, hout3, hq3, hf3, hb3, ho3⟩
  have HP := Lib.hid ((Stp2.comp HF2.out HB2.out HO2.out ⟨own3, hq3, hf3, hb3, ho3⟩).below HB1.out HBB.out)
  have HRA : Hid (Src w3 1 ro xs.length xs) := HR2.out.src.fr hf3 (fun j hj _ hq => by have := HU2.out j hj; unfold F2 at hq; omega)
  have HRB : Hid (Src w3 1 qo xs.length xs) := hr3.src
  clear hr3 hy3 hout3 hq3 hf3 hb3 ho3
  go_wp2_with fail
  refine (same_any w3 ro qo xs.length rc qc xs HRA.out HRB.out HY2.out (by omega)).mono ?_
  rintro e w4 ⟨rfl, hb4⟩
  have HB4 := Lib.hid hb4
  clear hb4
  go_wp2_with fail
  go_ret
  refine ⟨rfl, last, N, by omega, ?_⟩
  obtain ⟨own5, he, hf, hb, ho⟩ := HP.out
  exact ⟨own5, he.below HB4.out, hf.trans (Fr.of_below (T := none0) HB4.out) (fun _ _ h => h.elim), hb.trans (HB4.out.mono (Nat.le_trans HBB.out hf.size)), ho⟩

theorem act_none (B : Nat) (w : World) (pb mb rb : Nat) (last : Int) (A : List Ab) (own : Own) (d k way most : Int) (bo : Option Addr) (bn bc : Nat) (h : Env2 B w pb mb rb last A last A own) (h1 : ¬ d = 1) (h2 : ¬ d = 2) (h3 : ¬ d = 3) (h4 : ¬ d = 4) :
    Calls Try.prog 26 #[.pointer (some ⟨pb, 0, none⟩), .pointer (some ⟨rb, 0, none⟩), .agg #[.int .i64 d, .int .i64 k, .int .i64 way, .int .i64 most, .slice bo bn bc]] w (ActPost B pb mb rb last own w) := by
  have hbl : Below w.heap.size w (w.alloc (.cells #[.int .i64 d, .int .i64 k, .int .i64 way, .int .i64 most, .slice bo bn bc] 66)) := (Below.refl _ _).alloc (Nat.le_refl _) _
  have HP : Hid (Stp2 B pb mb rb last A last A own w (w.alloc (.cells #[.int .i64 d, .int .i64 k, .int .i64 way, .int .i64 most, .slice bo bn bc] 66))) := ⟨own, h.below hbl, Fr.of_below hbl, hbl.mono h.env.hB, fun _ _ => rfl⟩
  clear hbl h
  have e1 : (d == 1) = false := by simpa using h1
  have e2 : (d == 2) = false := by simpa using h2
  have e3 : (d == 3) = false := by simpa using h3
  have e4 : (d == 4) = false := by simpa using h4
  clear h1 h2 h3 h4
  go_enter Try.func26, Try.ntmps26
  go_wp2_with fail
  go_ret
  exact ⟨rfl, last, A, by omega, HP.out⟩

theorem act_any (B : Nat) (w : World) (pb mb rb : Nat) (last : Int) (A : List Ab) (own : Own) (d k way most : Int) (bo : Option Addr) (bn bc : Nat) (bs : List Value) (h : Env2 B w pb mb rb last A last A own) (hlast : last < 1000000) (h1 : -9223372036854775808 ≤ k) (h2 : k ≤ 9223372036854775807) (hb : Src w 1 bo bn bs) (hy : AllB bs) (hn : bn ≤ 9223372036854775807) (hout : bs = [] ∨ Out own bo) :
    Calls Try.prog 26 #[.pointer (some ⟨pb, 0, none⟩), .pointer (some ⟨rb, 0, none⟩), .agg #[.int .i64 d, .int .i64 k, .int .i64 way, .int .i64 most, .slice bo bn bc]] w (ActPost B pb mb rb last own w) := by
  by_cases g1 : d = 1
  · subst g1; exact act_link B w pb mb rb last A own k way most bo bn bc h hlast
  by_cases g2 : d = 2
  · subst g2; exact act_send B w pb mb rb last A own k way most bo bn bc bs h h1 h2 hb hy hn hout
  by_cases g3 : d = 3
  · subst g3; exact act_move B w pb mb rb last A own k way most bo bn bc h h1 h2
  by_cases g4 : d = 4
  · subst g4; exact act_cut B w pb mb rb last A own k way most bo bn bc bs h h1 h2 hb hout
  exact act_none B w pb mb rb last A own d k way most bo bn bc h g1 g2 g3 g4

set_option maxHeartbeats 4000000 in
theorem same2_any (B : Nat) (w : World) (pb mb rb : Nat) (last : Int) (A : List Ab) (own : Own) (h : Env2 B w pb mb rb last A last A own) :
    Calls Try.prog 27 #[.pointer (some ⟨pb, 0, none⟩), .pointer (some ⟨rb, 0, none⟩)] w fun e w' => e = .returned (.bool true) ∧ Below w.heap.size w w' := by
  have H := Lib.hid h
  have hlen := h.env.len
  have HRNG := Lib.hid h.rng
  clear h
  go_enter Try.func27, Try.ntmps27
  go_wp2_with fail
  refine (rlinks_any B w rb last A own H.out.ref).mono ?_
  rintro e w1 ⟨ro, rc, rfl, hr1, hb1⟩
  have HR1 := Lib.hid hr1
  have HB1 := Lib.hid hb1
  have H1 := Lib.hid (H.out.below hb1)
  clear hr1 hb1
  go_wp2_with fail
  refine (links_any B w1 pb mb last A own H1.out.env.net).mono ?_
  rintro e w2 ⟨qo, qc, rfl, hr2, hb2⟩
  have HR2 := Lib.hid hr2
  have HR12 : Hid (Row w.heap.size w2 3 1 ro A.length rc (ints (linksR A))) := HR1.out.fr (Fr.of_below (T := none0) hb2) (fun _ _ h => h)
  have HB2 : Hid (Below w.heap.size w w2) := HB1.out.trans (hb2.mono HB1.out.size)
  clear hr2 hb2
  go_wp2_with fail
  refine (ints_same w2 qo ro A.length qc rc (linksR A) HR2.out.src HR12.out.src (by omega)).mono ?_
  rintro e w3 ⟨rfl, hb3⟩
  have HR13 : Hid (Row w.heap.size w3 3 1 ro A.length rc (ints (linksR A))) := HR12.out.fr (Fr.of_below (T := none0) hb3) (fun _ _ h => h)
  have HB3 : Hid (Below w.heap.size w w3) := HB2.out.trans (hb3.mono HB2.out.size)
  clear hb3
  go_wp2_with fail
  go_loopw [4, 6] (fun _ s6 wr => ∃ k : Nat, k ≤ A.length ∧ s6 = .int .i64 k ∧ Hid (Below w3.heap.size w3 wr)) (fun _ s _ => A.length - (intOf s).toNat)
  case atStart => exact ⟨0, Nat.zero_le _, rfl, Below.refl _ _⟩
  case round =>
    obtain ⟨k, hk, rfl, hb⟩ := hrel
    by_cases hlt : k < A.length
    · have hA : A[k]? = some (A[k]) := List.getElem?_eq_getElem hlt
      obtain ⟨g, rfl⟩ := HR13.out.form (by omega)
      have hc : w3.cell? ⟨g, k, none⟩ = some (.int .i64 A[k].k) := by
        have hl := HR13.out.len
        refine (HR13.out.cell (j := k) (by omega)).trans ?_
        unfold ints linksR
        rw [List.getElem?_map, List.getElem?_map, hA]; rfl
      have d0 : wr.cell? ⟨g, k, none⟩ = some (.int .i64 A[k].k) := (hb.out.cell (p := ⟨g, k, none⟩) HR13.out.lt).trans hc
      obtain ⟨r1, r2⟩ := HRNG.out _ (List.mem_of_getElem? hA)
      generalize A[k].k = z at *
      have h1 : -9223372036854775808 ≤ z := by omega
      have h2 : z ≤ 9223372036854775807 := by omega
      have HE : Hid (∀ m, Env2 B (wr.drewN m) pb mb rb last A last A own) := fun m => H.out.below (below_drewN (HB3.out.trans (hb.out.mono HB3.out.size)) m)
      have i1 : (0 : Int) ≤ (k : Int) := by omega
      have i2 : (k : Int) < (A.length : Int) := by omega
      have d1 : ∀ m, (wr.drewN m).cell? ⟨g, k, none⟩ = some (.int .i64 z) := fun m => d0
      clear hA hc
      go_wp2_with fail
      go_quiet (first
        | (go_at_call 13
           exact Calls.quiet_of_same ((waits_any B _ pb mb last A own z _ (HE.out _).env.net h1 h2).mono fun _ _ ⟨q1, q2⟩ => ⟨q1, q2.symm⟩))
        | (go_at_call 35
           exact Calls.quiet_of_same ((rwaits_any B _ rb last A own z _ (HE.out _).ref).mono fun _ _ ⟨q1, q2⟩ => ⟨q1, q2.symm⟩)))
      go_wp2_with fail
      go_roundw
      case rel => exact ⟨k + 1, by omega, by go_num, below_drewN hb.out _⟩
      case measure => simp [intOf]; omega
    · have HB4 : Hid (Below w.heap.size w wr) := HB3.out.trans (hb.out.mono HB3.out.size)
      go_wp2_with fail
      go_ret
      exact ⟨rfl, HB4.out⟩
end Go.Proofs.Ytmgdbilmfialkaa
