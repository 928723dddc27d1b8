/- Contract of pdqsort and of slices.Sort at numbers that are distinct, by walks. -/
import Derived.Test.YteglklcaaicjjaaW12
import Derived.Test.YteglklcaaicjjaaW14
import Derived.Test.YteglklcaaicjjaaW15
namespace Go.Proofs.Yteglklcaaicjjaa
open Go.RowKit Go.WideShapes

theorem perm_all {a b : Nat} {d d' : Array Int} (h : Go.Sort.PermIn a b d d') (hb : b ≤ d.size) : d'.toList.Perm d.toList := by
  have h1 := (Go.Sort.permIn_mono d d' a b 0 d.size (Nat.zero_le _) hb (Nat.le_refl _) h).2.2
  have e1 : d.extract 0 d.size = d := by simp
  have e2 : d'.extract 0 d.size = d' := by rw [← h.1]; simp
  rw [e1, e2] at h1
  exact h1
theorem nodup_all {a b : Nat} {d d' : Array Int} (h : Go.Sort.PermIn a b d d') (hb : b ≤ d.size) (hn : d.toList.Nodup) : d'.toList.Nodup := (perm_all h hb).nodup_iff.2 hn
/-- What stands left of a part is less than each of it, where the numbers are distinct. -/
theorem below_lt {a b p am : Nat} {d : Array Int} (h : Go.Sort.Below Go.Sort.ltInt a b d) (ha : a = am + 1) (hp : a ≤ p) (hpb : p < b) (hb : b ≤ d.size) (hn : d.toList.Nodup) : Go.Sort.ltInt d[am]! d[p]! = true := by
  rcases h with h | h
  · omega
  · have h1 := h p hp hpb
    have e : a - 1 = am := by omega
    rw [e] at h1
    unfold Go.Sort.ltInt at h1 ⊢
    simp only [decide_eq_false_iff_not] at h1
    simp only [decide_eq_true_eq]
    have hne : d[am]! ≠ d[p]! := fun he => by
      rw [getElem!_pos d am (by omega), getElem!_pos d p (by omega)] at he
      have := (List.getElem_inj (xs := d.toList) (i := am) (j := p) (h₀ := by simp; omega) (h₁ := by simp; omega) hn).1 (by simpa using he)
      omega
    omega

/-- What a sort leaves. -/
def SrtPost (B g n cap : Nat) (V : Array Int) (a b : Nat) (w : World) (e : Ending) (w' : World) : Prop :=
  e = .returned (.tuple #[]) ∧ ∃ U, (Go.Sort.PermIn a b V U ∧ Go.Sort.SortedIn Go.Sort.ltInt a b U) ∧ Vec B w' g n cap U ∧ Fr (fun j => j = g) w w'
/-- The contract, at parts shorter than N. -/
def PdqAt (B g n cap N : Nat) : Prop := ∀ (w : World) (V : Array Int) (a b : Nat) (l : Int), Vec B w g n cap V → a ≤ b → b ≤ n → b - a < N → V.toList.Nodup → Go.Sort.Below Go.Sort.ltInt a b V → 0 ≤ l → l ≤ 1000 →
    Calls Try.prog 25 #[.slice (some ⟨g, 0, none⟩) n cap, .int .i64 a, .int .i64 b, .int .i64 l] w (SrtPost B g n cap V a b w)
/-- What is left to be done of the whole, once [a0, b0) is sorted. -/
def Left (V : Array Int) (a b a0 b0 : Nat) (U : Array Int) : Prop := ∀ U', Go.Sort.PermIn a0 b0 U U' → Go.Sort.SortedIn Go.Sort.ltInt a0 b0 U' → Go.Sort.PermIn a b V U' ∧ Go.Sort.SortedIn Go.Sort.ltInt a b U'
theorem Left.perm {V U U1 : Array Int} {a b a0 b0 : Nat} (h : Left V a b a0 b0 U) (hp : Go.Sort.PermIn a0 b0 U U1) : Left V a b a0 b0 U1 := fun U' h1 h2 => h U' (Go.Sort.permIn_trans _ _ _ _ _ hp h1) h2

set_option maxRecDepth 100000 in
set_option maxHeartbeats 64000000 in
theorem pdq_step (B g n cap N : Nat) (hn : n ≤ 200) (ih : PdqAt B g n cap N) : PdqAt B g n cap (N + 1) := by
  intro w V a b l h hab hbn hN hnd hbel hl0 hl1
  unfold SrtPost
  have IH := Lib.hid ih
  have H := Lib.hid h
  have HND := Lib.hid hnd
  have HBEL := Lib.hid hbel
  have HLEFT : Hid (Left V a b a b V) := fun U' h1 h2 => ⟨h1, h2⟩
  clear h hnd hbel ih
  go_enter Try.func25, Try.ntmps25
  go_wp2_with fail
  go_loopw [1, 2, 3, 8, 9, 10, 11, 12, 13, 14, 15, 16, 17, 18] (fun s1 s2 s3 s8 s9 _ _ _ _ _ _ _ _ _ wr => ∃ (a0 b0 : Nat) (l : Int) (wb wp : Bool) (U : Array Int), a ≤ a0 ∧ a0 ≤ b0 ∧ b0 ≤ b ∧ 0 ≤ l ∧ l ≤ 1000 ∧ s1 = .int .i64 a0 ∧ s2 = .int .i64 b0 ∧ s3 = .int .i64 l ∧ s8 = .bool wb ∧ s9 = .bool wp ∧ Hid (Left V a b a0 b0 U) ∧ Hid (U.toList.Nodup) ∧ Hid (Go.Sort.Below Go.Sort.ltInt a0 b0 U) ∧ Hid (Vec B wr g n cap U) ∧ Hid (Fr (fun j => j = g) w wr)) (fun s1 s2 _ _ _ _ _ _ _ _ _ _ _ _ _ => (intOf s2).toNat - (intOf s1).toNat)
  case atStart => exact ⟨a, b, l, true, true, V, Nat.le_refl _, hab, Nat.le_refl _, hl0, hl1, rfl, rfl, rfl, rfl, rfl, HLEFT.out, HND.out, HBEL.out, H.out, Fr.refl _ _⟩
  case round =>
    clear HND HBEL HLEFT hl0 hl1 l
    obtain ⟨a0, b0, l, wb, wp, U, haa, hab0, hbb, hl0, hl1, rfl, rfl, rfl, rfl, rfl, HLF, HND, HBEL, hv, hf⟩ := hrel
    obtain ⟨L, hL⟩ : ∃ L, L = b0 - a0 := ⟨_, rfl⟩
    have i1 : IntKind.i64.wrap ((b0 : Int) - (a0 : Int)) = (L : Int) := by rw [IntWalk.i64_in _ (by omega)]; omega
    have hsz : U.size = n := hv.out.size
    have HSZ := Lib.hid hsz
    have hb0n : b0 ≤ n := by omega
    by_cases h12 : L ≤ 12
    · have c12 : (L : Int) ≤ 12 := by omega
      have HINS : Hid (Go.Sort.PermIn a b V (Go.Sort.insertionSort Go.Sort.ltInt U a0 b0) ∧ Go.Sort.SortedIn Go.Sort.ltInt a b (Go.Sort.insertionSort Go.Sort.ltInt U a0 b0)) := by
        obtain ⟨q1, q2⟩ := Go.Sort.insertionSort_holds Go.Sort.swo_ltInt U a0 b0 hab0 (by omega)
        exact HLF.out _ q1 q2
      clear hL h12 hsz
      go_wp2_with fail
      refine (ins_any B wr g n cap U a0 b0 hv.out hab0 hb0n (by omega)).mono ?_
      rintro e w5 ⟨rfl, hv5, hf5⟩
      have HV5 := Lib.hid hv5
      have HF5 : Hid (Fr (fun j => j = g) w w5) := hf.out.step hf5
      clear hv5 hf5
      go_wp2_with fail
      first | go_end0 | refine bodyPost_ret (results_none rfl _ _ _) rfl ?_
      exact ⟨rfl, _, HINS.out, HV5.out, HF5.out⟩
    · have c12 : ¬ (L : Int) ≤ 12 := by omega
      have hab8 : a0 + 8 ≤ b0 := by omega
      have hab1 : a0 < b0 := by omega
      have HL := Lib.hid hL
      by_cases hl00 : l = 0
      · subst hl00
        have HINS : Hid (Go.Sort.PermIn a b V (Go.Sort.heapSort Go.Sort.ltInt U a0 b0) ∧ Go.Sort.SortedIn Go.Sort.ltInt a b (Go.Sort.heapSort Go.Sort.ltInt U a0 b0)) := by
          obtain ⟨q1, q2⟩ := Go.Sort.heapSort_holds Go.Sort.swo_ltInt U a0 b0 hab0 (by omega)
          exact HLF.out _ q1 q2
        clear hL h12 hsz
        go_wp2_with fail
        refine (heap_any B wr g n cap U a0 b0 hv.out hab1 hb0n (by omega)).mono ?_
        rintro e w5 ⟨rfl, hv5, hf5⟩
        have HV5 := Lib.hid hv5
        have HF5 : Hid (Fr (fun j => j = g) w w5) := hf.out.step hf5
        clear hv5 hf5
        go_wp2_with fail
        first | go_end0 | refine bodyPost_ret (results_none rfl _ _ _) rfl ?_
        exact ⟨rfl, _, HINS.out, HV5.out, HF5.out⟩
      · have cl0 : (l == 0) = false := by simpa using hl00
        have hl11 : 1 ≤ l := by omega
        have i9 : IntKind.i64.wrap (l - 1) = l - 1 := IntWalk.i64_in _ (by omega)
        obtain ⟨b1, hb1⟩ : ∃ q, q = b0 - 1 := ⟨_, rfl⟩
        have i10 : IntKind.i64.wrap ((b0 : Int) - 1) = (b1 : Int) := by rw [IntWalk.i64_in _ (by omega)]; omega
        obtain ⟨q8, hq8⟩ : ∃ q, q = L / 8 := ⟨_, rfl⟩
        have i11 : (L : Int).tdiv 8 = (q8 : Int) := by rw [Int.tdiv_eq_ediv_of_nonneg (by omega)]; omega
        have i11b : (L : Int) / 8 = (q8 : Int) := by omega
        have i11c : IntKind.i64.wrap (q8 : Int) = (q8 : Int) := IntWalk.i64_in _ (by omega)
        have HB1 := Lib.hid hb1
        clear hL h12 hsz hl00 hb1 hq8
        cases wb with
        | false =>
          go_wp2_with fail
          refine (brk_any B wr g n cap U a0 b0 hv.out hab8 hb0n hn).mono ?_
          rintro e wb1 ⟨rfl, Ub, hpb, hvb, hfb⟩
          have HPB := Lib.hid hpb
          have V_b := Lib.hid hvb
          have F_b : Hid (Fr (fun j => j = g) w wb1) := hf.out.step hfb
          clear hpb hvb hfb
          go_wp2_with fail
          refine (piv_any B wb1 g n cap Ub a0 b0 V_b.out hab8 hb0n (by omega)).mono ?_
          rintro e wp1 ⟨p0, t, rfl, hp01, hp02, ht, hf6⟩
          have V_p : Hid (Vec B wp1 g n cap Ub) := V_b.out.fr hf6 (fun h => h)
          have F_p : Hid (Fr (fun j => j = g) w wp1) := F_b.out.trans hf6 (fun _ _ h => h.elim)
          clear hf6
          by_cases ht2 : t = 2
          · subst ht2
            clear ht
            obtain ⟨r1, hr1⟩ : ∃ q, q = p0 - a0 := ⟨_, rfl⟩
            obtain ⟨p, hpp⟩ : ∃ q, q = b1 - r1 := ⟨_, rfl⟩
            have hbb1 := HB1.out
            have v1 : IntKind.i64.wrap ((p0 : Int) - (a0 : Int)) = (r1 : Int) := by rw [IntWalk.i64_in _ (by omega)]; omega
            have v2 : IntKind.i64.wrap ((b1 : Int) - (r1 : Int)) = (p : Int) := by rw [IntWalk.i64_in _ (by omega)]; omega
            have hp1 : a0 ≤ p := by omega
            have hp2 : p < b0 := by omega
            clear hr1 hpp hbb1
            go_wp2_with fail
            refine (rev_any B wp1 g n cap Ub a0 b0 V_p.out hab1 hb0n (by omega)).mono ?_
            rintro e wt ⟨rfl, Ut, hpr, hv7, hf7⟩
            have HPT : Hid (Go.Sort.PermIn a0 b0 U Ut) := Go.Sort.permIn_trans _ _ _ _ _ HPB.out hpr
            have V_t := Lib.hid hv7
            have F_t : Hid (Fr (fun j => j = g) w wt) := F_p.out.step hf7
            clear hpr hv7 hf7
            have HBT : Hid (Go.Sort.Below Go.Sort.ltInt a0 b0 Ut) := HBEL.out.perm (by rw [HSZ.out]; exact hb0n) HPT.out
            have HNT : Hid (Ut.toList.Nodup) := nodup_all HPT.out (by rw [HSZ.out]; exact hb0n) HND.out
            by_cases ha0 : a0 = 0
            · have g1 : decide ((0 : Int) < (a0 : Int)) = false := decide_eq_false (by omega)
              have g2 : decide (0 < a0) = false := decide_eq_false (by omega)
              clear ha0
              go_wp2_with fail
              go_quiet (fail)
              have V_q : Hid (Vec B (wt.drewN nq) g n cap Ut) := V_t.out.fr ((Fr.refl none0 wt).drewN nq) (fun h => h)
              have F_q : Hid (Fr (fun j => j = g) w (wt.drewN nq)) := F_t.out.drewN nq
              go_wp2_with fail
              obtain ⟨⟨mid, ap, U4⟩, hR⟩ : ∃ R, Go.Sort.partition Go.Sort.ltInt Ut a0 b0 p = R := ⟨_, rfl⟩
              refine (part_any B _ g n cap Ut a0 b0 p V_q.out hp1 hp2 hb0n (by omega)).mono ?_
              have hszt : b0 ≤ Ut.size := by rw [V_q.out.size]; exact hb0n
              have hpm := (Go.Sort.partition_holds Go.Sort.ltInt Go.Sort.swo_ltInt Ut a0 b0 p hp1 hp2 hszt).2.2.1
              rw [hR] at hpm
              rw [hR]
              rintro e w5 ⟨rfl, hv5, hf5⟩
              obtain ⟨m1, m2, msz, mB1, mB2, mL, mR⟩ := Go.Sort.round_part Go.Sort.swo_ltInt (Go.Sort.partition_holds Go.Sort.ltInt) hp1 hp2 hszt HBT.out hR
              have HN4 : Hid (U4.toList.Nodup) := nodup_all hpm hszt HNT.out
              have V_5 : Hid (Vec B w5 g n cap U4) := hv5
              have HSZ4 : Hid (U4.size = n) := hv5.size
              have F_5 : Hid (Fr (fun j => j = g) w w5) := F_q.out.step hf5
              obtain ⟨lm, hlm⟩ : ∃ q, q = mid - a0 := ⟨_, rfl⟩
              obtain ⟨rm, hrm⟩ : ∃ q, q = b0 - mid := ⟨_, rfl⟩
              obtain ⟨md1, hmd⟩ : ∃ q, mid + 1 = q := ⟨_, rfl⟩
              have j1 : IntKind.i64.wrap ((mid : Int) - (a0 : Int)) = (lm : Int) := by rw [IntWalk.i64_in _ (by omega)]; omega
              have j2 : IntKind.i64.wrap ((b0 : Int) - (mid : Int)) = (rm : Int) := by rw [IntWalk.i64_in _ (by omega)]; omega
              have j3 : IntKind.i64.wrap ((mid : Int) + 1) = (md1 : Int) := by rw [IntWalk.i64_in _ (by omega)]; omega
              have HMD := Lib.hid hmd
              have mm1 : md1 ≤ b0 := by omega
              have mm2 : a0 < md1 := by omega
              have mm3 : b0 - md1 < b0 - a0 := by omega
              have mm4 : mid - a0 < b0 - a0 := by omega
              have HLM := Lib.hid hlm
              have HRM := Lib.hid hrm
              clear hv5 hf5 hR hpm hszt hmd msz
              by_cases hlr : lm < rm
              · have j4 : (lm : Int) < (rm : Int) := by omega
                clear hlm hrm hlr
                go_wp2_with fail
                refine (IH.out w5 U4 a0 mid (l - 1) V_5.out (by omega) (by omega) (by omega) HN4.out mB1 (by omega) (by omega)).mono ?_
                rintro e w6 ⟨rfl, U5, ⟨hp5, hs5⟩, hv6, hf6⟩
                obtain ⟨nB, nD⟩ := mL U5 hp5 hs5
                have HN5 : Hid (U5.toList.Nodup) := nodup_all hp5 (by rw [HSZ4.out]; omega) HN4.out
                have HB5 : Hid (Go.Sort.Below Go.Sort.ltInt md1 b0 U5) := by rw [← HMD.out]; exact nB
                have HL5 : Hid (Left V a b md1 b0 U5) := fun U' h1 h2 => by
                  rw [← HMD.out] at h1 h2
                  obtain ⟨r1, r2⟩ := nD U' h1 h2
                  exact HLF.out U' (Go.Sort.permIn_trans _ _ _ _ _ HPT.out r1) r2
                have HV6 := Lib.hid hv6
                have HF6 : Hid (Fr (fun j => j = g) w w6) := F_5.out.step hf6
                clear hp5 hs5 hv6 hf6 nB nD mL mR mB1 mB2
                go_wp2_with fail
                go_roundw
                case rel => exact ⟨md1, b0, l - 1, _, _, U5, by omega, by omega, hbb, by omega, by omega, by go_num, rfl, rfl, rfl, rfl, HL5.out, HN5.out, HB5.out, HV6.out, HF6.out⟩
                case measure => simp [intOf]; omega
              · have j4 : ¬ (lm : Int) < (rm : Int) := by omega
                clear hlm hrm hlr
                go_wp2_with fail
                refine (IH.out w5 U4 md1 b0 (l - 1) V_5.out (by omega) (by omega) (by omega) HN4.out (by rw [← HMD.out]; exact mB2) (by omega) (by omega)).mono ?_
                rintro e w6 ⟨rfl, U5, ⟨hp5, hs5⟩, hv6, hf6⟩
                rw [← HMD.out] at hp5 hs5
                obtain ⟨nB, nD⟩ := mR U5 hp5 hs5
                have HN5 : Hid (U5.toList.Nodup) := nodup_all hp5 (by rw [HSZ4.out]; omega) HN4.out
                have HB5 : Hid (Go.Sort.Below Go.Sort.ltInt a0 mid U5) := nB
                have HL5 : Hid (Left V a b a0 mid U5) := fun U' h1 h2 => by
                  obtain ⟨r1, r2⟩ := nD U' h1 h2
                  exact HLF.out U' (Go.Sort.permIn_trans _ _ _ _ _ HPT.out r1) r2
                have HV6 := Lib.hid hv6
                have HF6 : Hid (Fr (fun j => j = g) w w6) := F_5.out.step hf6
                clear hp5 hs5 hv6 hf6 nB nD mL mR mB1 mB2
                go_wp2_with fail
                go_roundw
                case rel => exact ⟨a0, mid, l - 1, _, _, U5, haa, by omega, by omega, by omega, by omega, rfl, rfl, rfl, rfl, rfl, HL5.out, HN5.out, HB5.out, HV6.out, HF6.out⟩
                case measure => simp [intOf]; omega
            · obtain ⟨am, ham⟩ : ∃ q, a0 = q + 1 := ⟨a0 - 1, by omega⟩
              have g1 : decide ((0 : Int) < (a0 : Int)) = true := decide_eq_true (by omega)
              have g2 : (0 : Int) < (a0 : Int) := by omega
              have g2b : 0 < a0 := by omega
              have g3 : IntKind.i64.wrap ((a0 : Int) - 1) = (am : Int) := by rw [IntWalk.i64_in _ (by omega)]; omega
              have g4 : (am : Int) < (n : Int) := by omega
              have g5 : (0 : Int) ≤ (am : Int) := by omega
              have g6 : (p : Int) < (n : Int) := by omega
              have g7 : (0 : Int) ≤ (p : Int) := by omega
              have d1 := V_t.out.cell (i := am) (by omega)
              have d2 := V_t.out.cell (i := p) (by omega)
              have hlt := below_lt HBT.out ham hp1 hp2 (by rw [V_t.out.size]; exact hb0n) HNT.out
              obtain ⟨x, hx⟩ : ∃ x, Ut[am]! = x := ⟨_, rfl⟩
              obtain ⟨y, hy⟩ : ∃ x, Ut[p]! = x := ⟨_, rfl⟩
              rw [hx] at d1 hlt
              rw [hy] at d2 hlt
              have HXY := Lib.hid hlt
              clear hx hy hlt ham ha0
              go_wp2_with fail
              go_quiet ((go_at_call 33; exact Calls.quiet_of_same (less_is _ x y true HXY.out)))
              have V_q : Hid (Vec B (wt.drewN nq) g n cap Ut) := V_t.out.fr ((Fr.refl none0 wt).drewN nq) (fun h => h)
              have F_q : Hid (Fr (fun j => j = g) w (wt.drewN nq)) := F_t.out.drewN nq
              clear d1 d2
              go_wp2_with fail
              obtain ⟨⟨mid, ap, U4⟩, hR⟩ : ∃ R, Go.Sort.partition Go.Sort.ltInt Ut a0 b0 p = R := ⟨_, rfl⟩
              refine (part_any B _ g n cap Ut a0 b0 p V_q.out hp1 hp2 hb0n (by omega)).mono ?_
              have hszt : b0 ≤ Ut.size := by rw [V_q.out.size]; exact hb0n
              have hpm := (Go.Sort.partition_holds Go.Sort.ltInt Go.Sort.swo_ltInt Ut a0 b0 p hp1 hp2 hszt).2.2.1
              rw [hR] at hpm
              rw [hR]
              rintro e w5 ⟨rfl, hv5, hf5⟩
              obtain ⟨m1, m2, msz, mB1, mB2, mL, mR⟩ := Go.Sort.round_part Go.Sort.swo_ltInt (Go.Sort.partition_holds Go.Sort.ltInt) hp1 hp2 hszt HBT.out hR
              have HN4 : Hid (U4.toList.Nodup) := nodup_all hpm hszt HNT.out
              have V_5 : Hid (Vec B w5 g n cap U4) := hv5
              have HSZ4 : Hid (U4.size = n) := hv5.size
              have F_5 : Hid (Fr (fun j => j = g) w w5) := F_q.out.step hf5
              obtain ⟨lm, hlm⟩ : ∃ q, q = mid - a0 := ⟨_, rfl⟩
              obtain ⟨rm, hrm⟩ : ∃ q, q = b0 - mid := ⟨_, rfl⟩
              obtain ⟨md1, hmd⟩ : ∃ q, mid + 1 = q := ⟨_, rfl⟩
              have j1 : IntKind.i64.wrap ((mid : Int) - (a0 : Int)) = (lm : Int) := by rw [IntWalk.i64_in _ (by omega)]; omega
              have j2 : IntKind.i64.wrap ((b0 : Int) - (mid : Int)) = (rm : Int) := by rw [IntWalk.i64_in _ (by omega)]; omega
              have j3 : IntKind.i64.wrap ((mid : Int) + 1) = (md1 : Int) := by rw [IntWalk.i64_in _ (by omega)]; omega
              have HMD := Lib.hid hmd
              have mm1 : md1 ≤ b0 := by omega
              have mm2 : a0 < md1 := by omega
              have mm3 : b0 - md1 < b0 - a0 := by omega
              have mm4 : mid - a0 < b0 - a0 := by omega
              have HLM := Lib.hid hlm
              have HRM := Lib.hid hrm
              clear hv5 hf5 hR hpm hszt hmd msz
              by_cases hlr : lm < rm
              · have j4 : (lm : Int) < (rm : Int) := by omega
                clear hlm hrm hlr
                go_wp2_with fail
                refine (IH.out w5 U4 a0 mid (l - 1) V_5.out (by omega) (by omega) (by omega) HN4.out mB1 (by omega) (by omega)).mono ?_
                rintro e w6 ⟨rfl, U5, ⟨hp5, hs5⟩, hv6, hf6⟩
                obtain ⟨nB, nD⟩ := mL U5 hp5 hs5
                have HN5 : Hid (U5.toList.Nodup) := nodup_all hp5 (by rw [HSZ4.out]; omega) HN4.out
                have HB5 : Hid (Go.Sort.Below Go.Sort.ltInt md1 b0 U5) := by rw [← HMD.out]; exact nB
                have HL5 : Hid (Left V a b md1 b0 U5) := fun U' h1 h2 => by
                  rw [← HMD.out] at h1 h2
                  obtain ⟨r1, r2⟩ := nD U' h1 h2
                  exact HLF.out U' (Go.Sort.permIn_trans _ _ _ _ _ HPT.out r1) r2
                have HV6 := Lib.hid hv6
                have HF6 : Hid (Fr (fun j => j = g) w w6) := F_5.out.step hf6
                clear hp5 hs5 hv6 hf6 nB nD mL mR mB1 mB2
                go_wp2_with fail
                go_roundw
                case rel => exact ⟨md1, b0, l - 1, _, _, U5, by omega, by omega, hbb, by omega, by omega, by go_num, rfl, rfl, rfl, rfl, HL5.out, HN5.out, HB5.out, HV6.out, HF6.out⟩
                case measure => simp [intOf]; omega
              · have j4 : ¬ (lm : Int) < (rm : Int) := by omega
                clear hlm hrm hlr
                go_wp2_with fail
                refine (IH.out w5 U4 md1 b0 (l - 1) V_5.out (by omega) (by omega) (by omega) HN4.out (by rw [← HMD.out]; exact mB2) (by omega) (by omega)).mono ?_
                rintro e w6 ⟨rfl, U5, ⟨hp5, hs5⟩, hv6, hf6⟩
                rw [← HMD.out] at hp5 hs5
                obtain ⟨nB, nD⟩ := mR U5 hp5 hs5
                have HN5 : Hid (U5.toList.Nodup) := nodup_all hp5 (by rw [HSZ4.out]; omega) HN4.out
                have HB5 : Hid (Go.Sort.Below Go.Sort.ltInt a0 mid U5) := nB
                have HL5 : Hid (Left V a b a0 mid U5) := fun U' h1 h2 => by
                  obtain ⟨r1, r2⟩ := nD U' h1 h2
                  exact HLF.out U' (Go.Sort.permIn_trans _ _ _ _ _ HPT.out r1) r2
                have HV6 := Lib.hid hv6
                have HF6 : Hid (Fr (fun j => j = g) w w6) := F_5.out.step hf6
                clear hp5 hs5 hv6 hf6 nB nD mL mR mB1 mB2
                go_wp2_with fail
                go_roundw
                case rel => exact ⟨a0, mid, l - 1, _, _, U5, haa, by omega, by omega, by omega, by omega, rfl, rfl, rfl, rfl, rfl, HL5.out, HN5.out, HB5.out, HV6.out, HF6.out⟩
                case measure => simp [intOf]; omega
          · have t2 : (t == 2) = false := by simpa using ht2
            clear ht2 ht
            obtain ⟨p, hpp⟩ : ∃ q, q = p0 := ⟨_, rfl⟩
            subst hpp
            have hp1 : a0 ≤ p := hp01
            have hp2 : p < b0 := hp02
            obtain ⟨Ut, hUt⟩ : ∃ q, Ub = q := ⟨_, rfl⟩
            have HPT : Hid (Go.Sort.PermIn a0 b0 U Ut) := by
              rw [← hUt]
              exact HPB.out
            have V_t : Hid (Vec B wp1 g n cap Ut) := by rw [← hUt]; exact V_p.out
            have F_t := F_p
            clear hUt
            obtain ⟨wt, hwt⟩ : ∃ q, wp1 = q := ⟨_, rfl⟩
            subst hwt
            have HBT : Hid (Go.Sort.Below Go.Sort.ltInt a0 b0 Ut) := HBEL.out.perm (by rw [HSZ.out]; exact hb0n) HPT.out
            have HNT : Hid (Ut.toList.Nodup) := nodup_all HPT.out (by rw [HSZ.out]; exact hb0n) HND.out
            by_cases ha0 : a0 = 0
            · have g1 : decide ((0 : Int) < (a0 : Int)) = false := decide_eq_false (by omega)
              have g2 : decide (0 < a0) = false := decide_eq_false (by omega)
              clear ha0
              go_wp2_with fail
              go_quiet (fail)
              have V_q : Hid (Vec B (wp1.drewN nq) g n cap Ut) := V_t.out.fr ((Fr.refl none0 wp1).drewN nq) (fun h => h)
              have F_q : Hid (Fr (fun j => j = g) w (wp1.drewN nq)) := F_t.out.drewN nq
              go_wp2_with fail
              obtain ⟨⟨mid, ap, U4⟩, hR⟩ : ∃ R, Go.Sort.partition Go.Sort.ltInt Ut a0 b0 p = R := ⟨_, rfl⟩
              refine (part_any B _ g n cap Ut a0 b0 p V_q.out hp1 hp2 hb0n (by omega)).mono ?_
              have hszt : b0 ≤ Ut.size := by rw [V_q.out.size]; exact hb0n
              have hpm := (Go.Sort.partition_holds Go.Sort.ltInt Go.Sort.swo_ltInt Ut a0 b0 p hp1 hp2 hszt).2.2.1
              rw [hR] at hpm
              rw [hR]
              rintro e w5 ⟨rfl, hv5, hf5⟩
              obtain ⟨m1, m2, msz, mB1, mB2, mL, mR⟩ := Go.Sort.round_part Go.Sort.swo_ltInt (Go.Sort.partition_holds Go.Sort.ltInt) hp1 hp2 hszt HBT.out hR
              have HN4 : Hid (U4.toList.Nodup) := nodup_all hpm hszt HNT.out
              have V_5 : Hid (Vec B w5 g n cap U4) := hv5
              have HSZ4 : Hid (U4.size = n) := hv5.size
              have F_5 : Hid (Fr (fun j => j = g) w w5) := F_q.out.step hf5
              obtain ⟨lm, hlm⟩ : ∃ q, q = mid - a0 := ⟨_, rfl⟩
              obtain ⟨rm, hrm⟩ : ∃ q, q = b0 - mid := ⟨_, rfl⟩
              obtain ⟨md1, hmd⟩ : ∃ q, mid + 1 = q := ⟨_, rfl⟩
              have j1 : IntKind.i64.wrap ((mid : Int) - (a0 : Int)) = (lm : Int) := by rw [IntWalk.i64_in _ (by omega)]; omega
              have j2 : IntKind.i64.wrap ((b0 : Int) - (mid : Int)) = (rm : Int) := by rw [IntWalk.i64_in _ (by omega)]; omega
              have j3 : IntKind.i64.wrap ((mid : Int) + 1) = (md1 : Int) := by rw [IntWalk.i64_in _ (by omega)]; omega
              have HMD := Lib.hid hmd
              have mm1 : md1 ≤ b0 := by omega
              have mm2 : a0 < md1 := by omega
              have mm3 : b0 - md1 < b0 - a0 := by omega
              have mm4 : mid - a0 < b0 - a0 := by omega
              have HLM := Lib.hid hlm
              have HRM := Lib.hid hrm
              clear hv5 hf5 hR hpm hszt hmd msz
              by_cases hlr : lm < rm
              · have j4 : (lm : Int) < (rm : Int) := by omega
                clear hlm hrm hlr
                go_wp2_with fail
                refine (IH.out w5 U4 a0 mid (l - 1) V_5.out (by omega) (by omega) (by omega) HN4.out mB1 (by omega) (by omega)).mono ?_
                rintro e w6 ⟨rfl, U5, ⟨hp5, hs5⟩, hv6, hf6⟩
                obtain ⟨nB, nD⟩ := mL U5 hp5 hs5
                have HN5 : Hid (U5.toList.Nodup) := nodup_all hp5 (by rw [HSZ4.out]; omega) HN4.out
                have HB5 : Hid (Go.Sort.Below Go.Sort.ltInt md1 b0 U5) := by rw [← HMD.out]; exact nB
                have HL5 : Hid (Left V a b md1 b0 U5) := fun U' h1 h2 => by
                  rw [← HMD.out] at h1 h2
                  obtain ⟨r1, r2⟩ := nD U' h1 h2
                  exact HLF.out U' (Go.Sort.permIn_trans _ _ _ _ _ HPT.out r1) r2
                have HV6 := Lib.hid hv6
                have HF6 : Hid (Fr (fun j => j = g) w w6) := F_5.out.step hf6
                clear hp5 hs5 hv6 hf6 nB nD mL mR mB1 mB2
                go_wp2_with fail
                go_roundw
                case rel => exact ⟨md1, b0, l - 1, _, _, U5, by omega, by omega, hbb, by omega, by omega, by go_num, rfl, rfl, rfl, rfl, HL5.out, HN5.out, HB5.out, HV6.out, HF6.out⟩
                case measure => simp [intOf]; omega
              · have j4 : ¬ (lm : Int) < (rm : Int) := by omega
                clear hlm hrm hlr
                go_wp2_with fail
                refine (IH.out w5 U4 md1 b0 (l - 1) V_5.out (by omega) (by omega) (by omega) HN4.out (by rw [← HMD.out]; exact mB2) (by omega) (by omega)).mono ?_
                rintro e w6 ⟨rfl, U5, ⟨hp5, hs5⟩, hv6, hf6⟩
                rw [← HMD.out] at hp5 hs5
                obtain ⟨nB, nD⟩ := mR U5 hp5 hs5
                have HN5 : Hid (U5.toList.Nodup) := nodup_all hp5 (by rw [HSZ4.out]; omega) HN4.out
                have HB5 : Hid (Go.Sort.Below Go.Sort.ltInt a0 mid U5) := nB
                have HL5 : Hid (Left V a b a0 mid U5) := fun U' h1 h2 => by
                  obtain ⟨r1, r2⟩ := nD U' h1 h2
                  exact HLF.out U' (Go.Sort.permIn_trans _ _ _ _ _ HPT.out r1) r2
                have HV6 := Lib.hid hv6
                have HF6 : Hid (Fr (fun j => j = g) w w6) := F_5.out.step hf6
                clear hp5 hs5 hv6 hf6 nB nD mL mR mB1 mB2
                go_wp2_with fail
                go_roundw
                case rel => exact ⟨a0, mid, l - 1, _, _, U5, haa, by omega, by omega, by omega, by omega, rfl, rfl, rfl, rfl, rfl, HL5.out, HN5.out, HB5.out, HV6.out, HF6.out⟩
                case measure => simp [intOf]; omega
            · obtain ⟨am, ham⟩ : ∃ q, a0 = q + 1 := ⟨a0 - 1, by omega⟩
              have g1 : decide ((0 : Int) < (a0 : Int)) = true := decide_eq_true (by omega)
              have g2 : (0 : Int) < (a0 : Int) := by omega
              have g2b : 0 < a0 := by omega
              have g3 : IntKind.i64.wrap ((a0 : Int) - 1) = (am : Int) := by rw [IntWalk.i64_in _ (by omega)]; omega
              have g4 : (am : Int) < (n : Int) := by omega
              have g5 : (0 : Int) ≤ (am : Int) := by omega
              have g6 : (p : Int) < (n : Int) := by omega
              have g7 : (0 : Int) ≤ (p : Int) := by omega
              have d1 := V_t.out.cell (i := am) (by omega)
              have d2 := V_t.out.cell (i := p) (by omega)
              have hlt := below_lt HBT.out ham hp1 hp2 (by rw [V_t.out.size]; exact hb0n) HNT.out
              obtain ⟨x, hx⟩ : ∃ x, Ut[am]! = x := ⟨_, rfl⟩
              obtain ⟨y, hy⟩ : ∃ x, Ut[p]! = x := ⟨_, rfl⟩
              rw [hx] at d1 hlt
              rw [hy] at d2 hlt
              have HXY := Lib.hid hlt
              clear hx hy hlt ham ha0
              go_wp2_with fail
              go_quiet ((go_at_call 33; exact Calls.quiet_of_same (less_is _ x y true HXY.out)))
              have V_q : Hid (Vec B (wp1.drewN nq) g n cap Ut) := V_t.out.fr ((Fr.refl none0 wp1).drewN nq) (fun h => h)
              have F_q : Hid (Fr (fun j => j = g) w (wp1.drewN nq)) := F_t.out.drewN nq
              clear d1 d2
              go_wp2_with fail
              obtain ⟨⟨mid, ap, U4⟩, hR⟩ : ∃ R, Go.Sort.partition Go.Sort.ltInt Ut a0 b0 p = R := ⟨_, rfl⟩
              refine (part_any B _ g n cap Ut a0 b0 p V_q.out hp1 hp2 hb0n (by omega)).mono ?_
              have hszt : b0 ≤ Ut.size := by rw [V_q.out.size]; exact hb0n
              have hpm := (Go.Sort.partition_holds Go.Sort.ltInt Go.Sort.swo_ltInt Ut a0 b0 p hp1 hp2 hszt).2.2.1
              rw [hR] at hpm
              rw [hR]
              rintro e w5 ⟨rfl, hv5, hf5⟩
              obtain ⟨m1, m2, msz, mB1, mB2, mL, mR⟩ := Go.Sort.round_part Go.Sort.swo_ltInt (Go.Sort.partition_holds Go.Sort.ltInt) hp1 hp2 hszt HBT.out hR
              have HN4 : Hid (U4.toList.Nodup) := nodup_all hpm hszt HNT.out
              have V_5 : Hid (Vec B w5 g n cap U4) := hv5
              have HSZ4 : Hid (U4.size = n) := hv5.size
              have F_5 : Hid (Fr (fun j => j = g) w w5) := F_q.out.step hf5
              obtain ⟨lm, hlm⟩ : ∃ q, q = mid - a0 := ⟨_, rfl⟩
              obtain ⟨rm, hrm⟩ : ∃ q, q = b0 - mid := ⟨_, rfl⟩
              obtain ⟨md1, hmd⟩ : ∃ q, mid + 1 = q := ⟨_, rfl⟩
              have j1 : IntKind.i64.wrap ((mid : Int) - (a0 : Int)) = (lm : Int) := by rw [IntWalk.i64_in _ (by omega)]; omega
              have j2 : IntKind.i64.wrap ((b0 : Int) - (mid : Int)) = (rm : Int) := by rw [IntWalk.i64_in _ (by omega)]; omega
              have j3 : IntKind.i64.wrap ((mid : Int) + 1) = (md1 : Int) := by rw [IntWalk.i64_in _ (by omega)]; omega
              have HMD := Lib.hid hmd
              have mm1 : md1 ≤ b0 := by omega
              have mm2 : a0 < md1 := by omega
              have mm3 : b0 - md1 < b0 - a0 := by omega
              have mm4 : mid - a0 < b0 - a0 := by omega
              have HLM := Lib.hid hlm
              have HRM := Lib.hid hrm
              clear hv5 hf5 hR hpm hszt hmd msz
              by_cases hlr : lm < rm
              · have j4 : (lm : Int) < (rm : Int) := by omega
                clear hlm hrm hlr
                go_wp2_with fail
                refine (IH.out w5 U4 a0 mid (l - 1) V_5.out (by omega) (by omega) (by omega) HN4.out mB1 (by omega) (by omega)).mono ?_
                rintro e w6 ⟨rfl, U5, ⟨hp5, hs5⟩, hv6, hf6⟩
                obtain ⟨nB, nD⟩ := mL U5 hp5 hs5
                have HN5 : Hid (U5.toList.Nodup) := nodup_all hp5 (by rw [HSZ4.out]; omega) HN4.out
                have HB5 : Hid (Go.Sort.Below Go.Sort.ltInt md1 b0 U5) := by rw [← HMD.out]; exact nB
                have HL5 : Hid (Left V a b md1 b0 U5) := fun U' h1 h2 => by
                  rw [← HMD.out] at h1 h2
                  obtain ⟨r1, r2⟩ := nD U' h1 h2
                  exact HLF.out U' (Go.Sort.permIn_trans _ _ _ _ _ HPT.out r1) r2
                have HV6 := Lib.hid hv6
                have HF6 : Hid (Fr (fun j => j = g) w w6) := F_5.out.step hf6
                clear hp5 hs5 hv6 hf6 nB nD mL mR mB1 mB2
                go_wp2_with fail
                go_roundw
                case rel => exact ⟨md1, b0, l - 1, _, _, U5, by omega, by omega, hbb, by omega, by omega, by go_num, rfl, rfl, rfl, rfl, HL5.out, HN5.out, HB5.out, HV6.out, HF6.out⟩
                case measure => simp [intOf]; omega
              · have j4 : ¬ (lm : Int) < (rm : Int) := by omega
                clear hlm hrm hlr
                go_wp2_with fail
                refine (IH.out w5 U4 md1 b0 (l - 1) V_5.out (by omega) (by omega) (by omega) HN4.out (by rw [← HMD.out]; exact mB2) (by omega) (by omega)).mono ?_
                rintro e w6 ⟨rfl, U5, ⟨hp5, hs5⟩, hv6, hf6⟩
                rw [← HMD.out] at hp5 hs5
                obtain ⟨nB, nD⟩ := mR U5 hp5 hs5
                have HN5 : Hid (U5.toList.Nodup) := nodup_all hp5 (by rw [HSZ4.out]; omega) HN4.out
                have HB5 : Hid (Go.Sort.Below Go.Sort.ltInt a0 mid U5) := nB
                have HL5 : Hid (Left V a b a0 mid U5) := fun U' h1 h2 => by
                  obtain ⟨r1, r2⟩ := nD U' h1 h2
                  exact HLF.out U' (Go.Sort.permIn_trans _ _ _ _ _ HPT.out r1) r2
                have HV6 := Lib.hid hv6
                have HF6 : Hid (Fr (fun j => j = g) w w6) := F_5.out.step hf6
                clear hp5 hs5 hv6 hf6 nB nD mL mR mB1 mB2
                go_wp2_with fail
                go_roundw
                case rel => exact ⟨a0, mid, l - 1, _, _, U5, haa, by omega, by omega, by omega, by omega, rfl, rfl, rfl, rfl, rfl, HL5.out, HN5.out, HB5.out, HV6.out, HF6.out⟩
                case measure => simp [intOf]; omega
        | true =>
          go_wp2_with fail
          refine (piv_any B wr g n cap U a0 b0 hv.out hab8 hb0n (by omega)).mono ?_
          rintro e wp1 ⟨p0, t, rfl, hp01, hp02, ht, hf6⟩
          have V_p : Hid (Vec B wp1 g n cap U) := hv.out.fr hf6 (fun h => h)
          have F_p : Hid (Fr (fun j => j = g) w wp1) := hf.out.trans hf6 (fun _ _ h => h.elim)
          clear hf6
          have HP0 : Hid (Go.Sort.PermIn a0 b0 U U) := Go.Sort.permIn_refl U a0 b0
          cases wp with
          | false =>
            by_cases ht2 : t = 2
            · subst ht2
              clear ht
              obtain ⟨r1, hr1⟩ : ∃ q, q = p0 - a0 := ⟨_, rfl⟩
              obtain ⟨p, hpp⟩ : ∃ q, q = b1 - r1 := ⟨_, rfl⟩
              have hbb1 := HB1.out
              have v1 : IntKind.i64.wrap ((p0 : Int) - (a0 : Int)) = (r1 : Int) := by rw [IntWalk.i64_in _ (by omega)]; omega
              have v2 : IntKind.i64.wrap ((b1 : Int) - (r1 : Int)) = (p : Int) := by rw [IntWalk.i64_in _ (by omega)]; omega
              have hp1 : a0 ≤ p := by omega
              have hp2 : p < b0 := by omega
              clear hr1 hpp hbb1
              go_wp2_with fail
              refine (rev_any B wp1 g n cap U a0 b0 V_p.out hab1 hb0n (by omega)).mono ?_
              rintro e wt ⟨rfl, Ut, hpr, hv7, hf7⟩
              have HPT : Hid (Go.Sort.PermIn a0 b0 U Ut) := hpr
              have V_t := Lib.hid hv7
              have F_t : Hid (Fr (fun j => j = g) w wt) := F_p.out.step hf7
              clear hpr hv7 hf7
              have HBT : Hid (Go.Sort.Below Go.Sort.ltInt a0 b0 Ut) := HBEL.out.perm (by rw [HSZ.out]; exact hb0n) HPT.out
              have HNT : Hid (Ut.toList.Nodup) := nodup_all HPT.out (by rw [HSZ.out]; exact hb0n) HND.out
              by_cases ha0 : a0 = 0
              · have g1 : decide ((0 : Int) < (a0 : Int)) = false := decide_eq_false (by omega)
                have g2 : decide (0 < a0) = false := decide_eq_false (by omega)
                clear ha0
                go_wp2_with fail
                go_quiet (fail)
                have V_q : Hid (Vec B (wt.drewN nq) g n cap Ut) := V_t.out.fr ((Fr.refl none0 wt).drewN nq) (fun h => h)
                have F_q : Hid (Fr (fun j => j = g) w (wt.drewN nq)) := F_t.out.drewN nq
                go_wp2_with fail
                obtain ⟨⟨mid, ap, U4⟩, hR⟩ : ∃ R, Go.Sort.partition Go.Sort.ltInt Ut a0 b0 p = R := ⟨_, rfl⟩
                refine (part_any B _ g n cap Ut a0 b0 p V_q.out hp1 hp2 hb0n (by omega)).mono ?_
                have hszt : b0 ≤ Ut.size := by rw [V_q.out.size]; exact hb0n
                have hpm := (Go.Sort.partition_holds Go.Sort.ltInt Go.Sort.swo_ltInt Ut a0 b0 p hp1 hp2 hszt).2.2.1
                rw [hR] at hpm
                rw [hR]
                rintro e w5 ⟨rfl, hv5, hf5⟩
                obtain ⟨m1, m2, msz, mB1, mB2, mL, mR⟩ := Go.Sort.round_part Go.Sort.swo_ltInt (Go.Sort.partition_holds Go.Sort.ltInt) hp1 hp2 hszt HBT.out hR
                have HN4 : Hid (U4.toList.Nodup) := nodup_all hpm hszt HNT.out
                have V_5 : Hid (Vec B w5 g n cap U4) := hv5
                have HSZ4 : Hid (U4.size = n) := hv5.size
                have F_5 : Hid (Fr (fun j => j = g) w w5) := F_q.out.step hf5
                obtain ⟨lm, hlm⟩ : ∃ q, q = mid - a0 := ⟨_, rfl⟩
                obtain ⟨rm, hrm⟩ : ∃ q, q = b0 - mid := ⟨_, rfl⟩
                obtain ⟨md1, hmd⟩ : ∃ q, mid + 1 = q := ⟨_, rfl⟩
                have j1 : IntKind.i64.wrap ((mid : Int) - (a0 : Int)) = (lm : Int) := by rw [IntWalk.i64_in _ (by omega)]; omega
                have j2 : IntKind.i64.wrap ((b0 : Int) - (mid : Int)) = (rm : Int) := by rw [IntWalk.i64_in _ (by omega)]; omega
                have j3 : IntKind.i64.wrap ((mid : Int) + 1) = (md1 : Int) := by rw [IntWalk.i64_in _ (by omega)]; omega
                have HMD := Lib.hid hmd
                have mm1 : md1 ≤ b0 := by omega
                have mm2 : a0 < md1 := by omega
                have mm3 : b0 - md1 < b0 - a0 := by omega
                have mm4 : mid - a0 < b0 - a0 := by omega
                have HLM := Lib.hid hlm
                have HRM := Lib.hid hrm
                clear hv5 hf5 hR hpm hszt hmd msz
                by_cases hlr : lm < rm
                · have j4 : (lm : Int) < (rm : Int) := by omega
                  clear hlm hrm hlr
                  go_wp2_with fail
                  refine (IH.out w5 U4 a0 mid (l) V_5.out (by omega) (by omega) (by omega) HN4.out mB1 (by omega) (by omega)).mono ?_
                  rintro e w6 ⟨rfl, U5, ⟨hp5, hs5⟩, hv6, hf6⟩
                  obtain ⟨nB, nD⟩ := mL U5 hp5 hs5
                  have HN5 : Hid (U5.toList.Nodup) := nodup_all hp5 (by rw [HSZ4.out]; omega) HN4.out
                  have HB5 : Hid (Go.Sort.Below Go.Sort.ltInt md1 b0 U5) := by rw [← HMD.out]; exact nB
                  have HL5 : Hid (Left V a b md1 b0 U5) := fun U' h1 h2 => by
                    rw [← HMD.out] at h1 h2
                    obtain ⟨r1, r2⟩ := nD U' h1 h2
                    exact HLF.out U' (Go.Sort.permIn_trans _ _ _ _ _ HPT.out r1) r2
                  have HV6 := Lib.hid hv6
                  have HF6 : Hid (Fr (fun j => j = g) w w6) := F_5.out.step hf6
                  clear hp5 hs5 hv6 hf6 nB nD mL mR mB1 mB2
                  go_wp2_with fail
                  go_roundw
                  case rel => exact ⟨md1, b0, l, _, _, U5, by omega, by omega, hbb, by omega, by omega, by go_num, rfl, rfl, rfl, rfl, HL5.out, HN5.out, HB5.out, HV6.out, HF6.out⟩
                  case measure => simp [intOf]; omega
                · have j4 : ¬ (lm : Int) < (rm : Int) := by omega
                  clear hlm hrm hlr
                  go_wp2_with fail
                  refine (IH.out w5 U4 md1 b0 (l) V_5.out (by omega) (by omega) (by omega) HN4.out (by rw [← HMD.out]; exact mB2) (by omega) (by omega)).mono ?_
                  rintro e w6 ⟨rfl, U5, ⟨hp5, hs5⟩, hv6, hf6⟩
                  rw [← HMD.out] at hp5 hs5
                  obtain ⟨nB, nD⟩ := mR U5 hp5 hs5
                  have HN5 : Hid (U5.toList.Nodup) := nodup_all hp5 (by rw [HSZ4.out]; omega) HN4.out
                  have HB5 : Hid (Go.Sort.Below Go.Sort.ltInt a0 mid U5) := nB
                  have HL5 : Hid (Left V a b a0 mid U5) := fun U' h1 h2 => by
                    obtain ⟨r1, r2⟩ := nD U' h1 h2
                    exact HLF.out U' (Go.Sort.permIn_trans _ _ _ _ _ HPT.out r1) r2
                  have HV6 := Lib.hid hv6
                  have HF6 : Hid (Fr (fun j => j = g) w w6) := F_5.out.step hf6
                  clear hp5 hs5 hv6 hf6 nB nD mL mR mB1 mB2
                  go_wp2_with fail
                  go_roundw
                  case rel => exact ⟨a0, mid, l, _, _, U5, haa, by omega, by omega, by omega, by omega, rfl, rfl, rfl, rfl, rfl, HL5.out, HN5.out, HB5.out, HV6.out, HF6.out⟩
                  case measure => simp [intOf]; omega
              · obtain ⟨am, ham⟩ : ∃ q, a0 = q + 1 := ⟨a0 - 1, by omega⟩
                have g1 : decide ((0 : Int) < (a0 : Int)) = true := decide_eq_true (by omega)
                have g2 : (0 : Int) < (a0 : Int) := by omega
                have g2b : 0 < a0 := by omega
                have g3 : IntKind.i64.wrap ((a0 : Int) - 1) = (am : Int) := by rw [IntWalk.i64_in _ (by omega)]; omega
                have g4 : (am : Int) < (n : Int) := by omega
                have g5 : (0 : Int) ≤ (am : Int) := by omega
                have g6 : (p : Int) < (n : Int) := by omega
                have g7 : (0 : Int) ≤ (p : Int) := by omega
                have d1 := V_t.out.cell (i := am) (by omega)
                have d2 := V_t.out.cell (i := p) (by omega)
                have hlt := below_lt HBT.out ham hp1 hp2 (by rw [V_t.out.size]; exact hb0n) HNT.out
                obtain ⟨x, hx⟩ : ∃ x, Ut[am]! = x := ⟨_, rfl⟩
                obtain ⟨y, hy⟩ : ∃ x, Ut[p]! = x := ⟨_, rfl⟩
                rw [hx] at d1 hlt
                rw [hy] at d2 hlt
                have HXY := Lib.hid hlt
                clear hx hy hlt ham ha0
                go_wp2_with fail
                go_quiet ((go_at_call 33; exact Calls.quiet_of_same (less_is _ x y true HXY.out)))
                have V_q : Hid (Vec B (wt.drewN nq) g n cap Ut) := V_t.out.fr ((Fr.refl none0 wt).drewN nq) (fun h => h)
                have F_q : Hid (Fr (fun j => j = g) w (wt.drewN nq)) := F_t.out.drewN nq
                clear d1 d2
                go_wp2_with fail
                obtain ⟨⟨mid, ap, U4⟩, hR⟩ : ∃ R, Go.Sort.partition Go.Sort.ltInt Ut a0 b0 p = R := ⟨_, rfl⟩
                refine (part_any B _ g n cap Ut a0 b0 p V_q.out hp1 hp2 hb0n (by omega)).mono ?_
                have hszt : b0 ≤ Ut.size := by rw [V_q.out.size]; exact hb0n
                have hpm := (Go.Sort.partition_holds Go.Sort.ltInt Go.Sort.swo_ltInt Ut a0 b0 p hp1 hp2 hszt).2.2.1
                rw [hR] at hpm
                rw [hR]
                rintro e w5 ⟨rfl, hv5, hf5⟩
                obtain ⟨m1, m2, msz, mB1, mB2, mL, mR⟩ := Go.Sort.round_part Go.Sort.swo_ltInt (Go.Sort.partition_holds Go.Sort.ltInt) hp1 hp2 hszt HBT.out hR
                have HN4 : Hid (U4.toList.Nodup) := nodup_all hpm hszt HNT.out
                have V_5 : Hid (Vec B w5 g n cap U4) := hv5
                have HSZ4 : Hid (U4.size = n) := hv5.size
                have F_5 : Hid (Fr (fun j => j = g) w w5) := F_q.out.step hf5
                obtain ⟨lm, hlm⟩ : ∃ q, q = mid - a0 := ⟨_, rfl⟩
                obtain ⟨rm, hrm⟩ : ∃ q, q = b0 - mid := ⟨_, rfl⟩
                obtain ⟨md1, hmd⟩ : ∃ q, mid + 1 = q := ⟨_, rfl⟩
                have j1 : IntKind.i64.wrap ((mid : Int) - (a0 : Int)) = (lm : Int) := by rw [IntWalk.i64_in _ (by omega)]; omega
                have j2 : IntKind.i64.wrap ((b0 : Int) - (mid : Int)) = (rm : Int) := by rw [IntWalk.i64_in _ (by omega)]; omega
                have j3 : IntKind.i64.wrap ((mid : Int) + 1) = (md1 : Int) := by rw [IntWalk.i64_in _ (by omega)]; omega
                have HMD := Lib.hid hmd
                have mm1 : md1 ≤ b0 := by omega
                have mm2 : a0 < md1 := by omega
                have mm3 : b0 - md1 < b0 - a0 := by omega
                have mm4 : mid - a0 < b0 - a0 := by omega
                have HLM := Lib.hid hlm
                have HRM := Lib.hid hrm
                clear hv5 hf5 hR hpm hszt hmd msz
                by_cases hlr : lm < rm
                · have j4 : (lm : Int) < (rm : Int) := by omega
                  clear hlm hrm hlr
                  go_wp2_with fail
                  refine (IH.out w5 U4 a0 mid (l) V_5.out (by omega) (by omega) (by omega) HN4.out mB1 (by omega) (by omega)).mono ?_
                  rintro e w6 ⟨rfl, U5, ⟨hp5, hs5⟩, hv6, hf6⟩
                  obtain ⟨nB, nD⟩ := mL U5 hp5 hs5
                  have HN5 : Hid (U5.toList.Nodup) := nodup_all hp5 (by rw [HSZ4.out]; omega) HN4.out
                  have HB5 : Hid (Go.Sort.Below Go.Sort.ltInt md1 b0 U5) := by rw [← HMD.out]; exact nB
                  have HL5 : Hid (Left V a b md1 b0 U5) := fun U' h1 h2 => by
                    rw [← HMD.out] at h1 h2
                    obtain ⟨r1, r2⟩ := nD U' h1 h2
                    exact HLF.out U' (Go.Sort.permIn_trans _ _ _ _ _ HPT.out r1) r2
                  have HV6 := Lib.hid hv6
                  have HF6 : Hid (Fr (fun j => j = g) w w6) := F_5.out.step hf6
                  clear hp5 hs5 hv6 hf6 nB nD mL mR mB1 mB2
                  go_wp2_with fail
                  go_roundw
                  case rel => exact ⟨md1, b0, l, _, _, U5, by omega, by omega, hbb, by omega, by omega, by go_num, rfl, rfl, rfl, rfl, HL5.out, HN5.out, HB5.out, HV6.out, HF6.out⟩
                  case measure => simp [intOf]; omega
                · have j4 : ¬ (lm : Int) < (rm : Int) := by omega
                  clear hlm hrm hlr
                  go_wp2_with fail
                  refine (IH.out w5 U4 md1 b0 (l) V_5.out (by omega) (by omega) (by omega) HN4.out (by rw [← HMD.out]; exact mB2) (by omega) (by omega)).mono ?_
                  rintro e w6 ⟨rfl, U5, ⟨hp5, hs5⟩, hv6, hf6⟩
                  rw [← HMD.out] at hp5 hs5
                  obtain ⟨nB, nD⟩ := mR U5 hp5 hs5
                  have HN5 : Hid (U5.toList.Nodup) := nodup_all hp5 (by rw [HSZ4.out]; omega) HN4.out
                  have HB5 : Hid (Go.Sort.Below Go.Sort.ltInt a0 mid U5) := nB
                  have HL5 : Hid (Left V a b a0 mid U5) := fun U' h1 h2 => by
                    obtain ⟨r1, r2⟩ := nD U' h1 h2
                    exact HLF.out U' (Go.Sort.permIn_trans _ _ _ _ _ HPT.out r1) r2
                  have HV6 := Lib.hid hv6
                  have HF6 : Hid (Fr (fun j => j = g) w w6) := F_5.out.step hf6
                  clear hp5 hs5 hv6 hf6 nB nD mL mR mB1 mB2
                  go_wp2_with fail
                  go_roundw
                  case rel => exact ⟨a0, mid, l, _, _, U5, haa, by omega, by omega, by omega, by omega, rfl, rfl, rfl, rfl, rfl, HL5.out, HN5.out, HB5.out, HV6.out, HF6.out⟩
                  case measure => simp [intOf]; omega
            · have t2 : (t == 2) = false := by simpa using ht2
              clear ht2 ht
              obtain ⟨p, hpp⟩ : ∃ q, q = p0 := ⟨_, rfl⟩
              subst hpp
              have hp1 : a0 ≤ p := hp01
              have hp2 : p < b0 := hp02
              obtain ⟨Ut, hUt⟩ : ∃ q, U = q := ⟨_, rfl⟩
              have HPT : Hid (Go.Sort.PermIn a0 b0 U Ut) := by
                rw [← hUt]
                exact HP0.out
              have V_t : Hid (Vec B wp1 g n cap Ut) := by rw [← hUt]; exact V_p.out
              have F_t := F_p
              clear hUt
              obtain ⟨wt, hwt⟩ : ∃ q, wp1 = q := ⟨_, rfl⟩
              subst hwt
              have HBT : Hid (Go.Sort.Below Go.Sort.ltInt a0 b0 Ut) := HBEL.out.perm (by rw [HSZ.out]; exact hb0n) HPT.out
              have HNT : Hid (Ut.toList.Nodup) := nodup_all HPT.out (by rw [HSZ.out]; exact hb0n) HND.out
              by_cases ha0 : a0 = 0
              · have g1 : decide ((0 : Int) < (a0 : Int)) = false := decide_eq_false (by omega)
                have g2 : decide (0 < a0) = false := decide_eq_false (by omega)
                clear ha0
                go_wp2_with fail
                go_quiet (fail)
                have V_q : Hid (Vec B (wp1.drewN nq) g n cap Ut) := V_t.out.fr ((Fr.refl none0 wp1).drewN nq) (fun h => h)
                have F_q : Hid (Fr (fun j => j = g) w (wp1.drewN nq)) := F_t.out.drewN nq
                go_wp2_with fail
                obtain ⟨⟨mid, ap, U4⟩, hR⟩ : ∃ R, Go.Sort.partition Go.Sort.ltInt Ut a0 b0 p = R := ⟨_, rfl⟩
                refine (part_any B _ g n cap Ut a0 b0 p V_q.out hp1 hp2 hb0n (by omega)).mono ?_
                have hszt : b0 ≤ Ut.size := by rw [V_q.out.size]; exact hb0n
                have hpm := (Go.Sort.partition_holds Go.Sort.ltInt Go.Sort.swo_ltInt Ut a0 b0 p hp1 hp2 hszt).2.2.1
                rw [hR] at hpm
                rw [hR]
                rintro e w5 ⟨rfl, hv5, hf5⟩
                obtain ⟨m1, m2, msz, mB1, mB2, mL, mR⟩ := Go.Sort.round_part Go.Sort.swo_ltInt (Go.Sort.partition_holds Go.Sort.ltInt) hp1 hp2 hszt HBT.out hR
                have HN4 : Hid (U4.toList.Nodup) := nodup_all hpm hszt HNT.out
                have V_5 : Hid (Vec B w5 g n cap U4) := hv5
                have HSZ4 : Hid (U4.size = n) := hv5.size
                have F_5 : Hid (Fr (fun j => j = g) w w5) := F_q.out.step hf5
                obtain ⟨lm, hlm⟩ : ∃ q, q = mid - a0 := ⟨_, rfl⟩
                obtain ⟨rm, hrm⟩ : ∃ q, q = b0 - mid := ⟨_, rfl⟩
                obtain ⟨md1, hmd⟩ : ∃ q, mid + 1 = q := ⟨_, rfl⟩
                have j1 : IntKind.i64.wrap ((mid : Int) - (a0 : Int)) = (lm : Int) := by rw [IntWalk.i64_in _ (by omega)]; omega
                have j2 : IntKind.i64.wrap ((b0 : Int) - (mid : Int)) = (rm : Int) := by rw [IntWalk.i64_in _ (by omega)]; omega
                have j3 : IntKind.i64.wrap ((mid : Int) + 1) = (md1 : Int) := by rw [IntWalk.i64_in _ (by omega)]; omega
                have HMD := Lib.hid hmd
                have mm1 : md1 ≤ b0 := by omega
                have mm2 : a0 < md1 := by omega
                have mm3 : b0 - md1 < b0 - a0 := by omega
                have mm4 : mid - a0 < b0 - a0 := by omega
                have HLM := Lib.hid hlm
                have HRM := Lib.hid hrm
                clear hv5 hf5 hR hpm hszt hmd msz
                by_cases hlr : lm < rm
                · have j4 : (lm : Int) < (rm : Int) := by omega
                  clear hlm hrm hlr
                  go_wp2_with fail
                  refine (IH.out w5 U4 a0 mid (l) V_5.out (by omega) (by omega) (by omega) HN4.out mB1 (by omega) (by omega)).mono ?_
                  rintro e w6 ⟨rfl, U5, ⟨hp5, hs5⟩, hv6, hf6⟩
                  obtain ⟨nB, nD⟩ := mL U5 hp5 hs5
                  have HN5 : Hid (U5.toList.Nodup) := nodup_all hp5 (by rw [HSZ4.out]; omega) HN4.out
                  have HB5 : Hid (Go.Sort.Below Go.Sort.ltInt md1 b0 U5) := by rw [← HMD.out]; exact nB
                  have HL5 : Hid (Left V a b md1 b0 U5) := fun U' h1 h2 => by
                    rw [← HMD.out] at h1 h2
                    obtain ⟨r1, r2⟩ := nD U' h1 h2
                    exact HLF.out U' (Go.Sort.permIn_trans _ _ _ _ _ HPT.out r1) r2
                  have HV6 := Lib.hid hv6
                  have HF6 : Hid (Fr (fun j => j = g) w w6) := F_5.out.step hf6
                  clear hp5 hs5 hv6 hf6 nB nD mL mR mB1 mB2
                  go_wp2_with fail
                  go_roundw
                  case rel => exact ⟨md1, b0, l, _, _, U5, by omega, by omega, hbb, by omega, by omega, by go_num, rfl, rfl, rfl, rfl, HL5.out, HN5.out, HB5.out, HV6.out, HF6.out⟩
                  case measure => simp [intOf]; omega
                · have j4 : ¬ (lm : Int) < (rm : Int) := by omega
                  clear hlm hrm hlr
                  go_wp2_with fail
                  refine (IH.out w5 U4 md1 b0 (l) V_5.out (by omega) (by omega) (by omega) HN4.out (by rw [← HMD.out]; exact mB2) (by omega) (by omega)).mono ?_
                  rintro e w6 ⟨rfl, U5, ⟨hp5, hs5⟩, hv6, hf6⟩
                  rw [← HMD.out] at hp5 hs5
                  obtain ⟨nB, nD⟩ := mR U5 hp5 hs5
                  have HN5 : Hid (U5.toList.Nodup) := nodup_all hp5 (by rw [HSZ4.out]; omega) HN4.out
                  have HB5 : Hid (Go.Sort.Below Go.Sort.ltInt a0 mid U5) := nB
                  have HL5 : Hid (Left V a b a0 mid U5) := fun U' h1 h2 => by
                    obtain ⟨r1, r2⟩ := nD U' h1 h2
                    exact HLF.out U' (Go.Sort.permIn_trans _ _ _ _ _ HPT.out r1) r2
                  have HV6 := Lib.hid hv6
                  have HF6 : Hid (Fr (fun j => j = g) w w6) := F_5.out.step hf6
                  clear hp5 hs5 hv6 hf6 nB nD mL mR mB1 mB2
                  go_wp2_with fail
                  go_roundw
                  case rel => exact ⟨a0, mid, l, _, _, U5, haa, by omega, by omega, by omega, by omega, rfl, rfl, rfl, rfl, rfl, HL5.out, HN5.out, HB5.out, HV6.out, HF6.out⟩
                  case measure => simp [intOf]; omega
              · obtain ⟨am, ham⟩ : ∃ q, a0 = q + 1 := ⟨a0 - 1, by omega⟩
                have g1 : decide ((0 : Int) < (a0 : Int)) = true := decide_eq_true (by omega)
                have g2 : (0 : Int) < (a0 : Int) := by omega
                have g2b : 0 < a0 := by omega
                have g3 : IntKind.i64.wrap ((a0 : Int) - 1) = (am : Int) := by rw [IntWalk.i64_in _ (by omega)]; omega
                have g4 : (am : Int) < (n : Int) := by omega
                have g5 : (0 : Int) ≤ (am : Int) := by omega
                have g6 : (p : Int) < (n : Int) := by omega
                have g7 : (0 : Int) ≤ (p : Int) := by omega
                have d1 := V_t.out.cell (i := am) (by omega)
                have d2 := V_t.out.cell (i := p) (by omega)
                have hlt := below_lt HBT.out ham hp1 hp2 (by rw [V_t.out.size]; exact hb0n) HNT.out
                obtain ⟨x, hx⟩ : ∃ x, Ut[am]! = x := ⟨_, rfl⟩
                obtain ⟨y, hy⟩ : ∃ x, Ut[p]! = x := ⟨_, rfl⟩
                rw [hx] at d1 hlt
                rw [hy] at d2 hlt
                have HXY := Lib.hid hlt
                clear hx hy hlt ham ha0
                go_wp2_with fail
                go_quiet ((go_at_call 33; exact Calls.quiet_of_same (less_is _ x y true HXY.out)))
                have V_q : Hid (Vec B (wp1.drewN nq) g n cap Ut) := V_t.out.fr ((Fr.refl none0 wp1).drewN nq) (fun h => h)
                have F_q : Hid (Fr (fun j => j = g) w (wp1.drewN nq)) := F_t.out.drewN nq
                clear d1 d2
                go_wp2_with fail
                obtain ⟨⟨mid, ap, U4⟩, hR⟩ : ∃ R, Go.Sort.partition Go.Sort.ltInt Ut a0 b0 p = R := ⟨_, rfl⟩
                refine (part_any B _ g n cap Ut a0 b0 p V_q.out hp1 hp2 hb0n (by omega)).mono ?_
                have hszt : b0 ≤ Ut.size := by rw [V_q.out.size]; exact hb0n
                have hpm := (Go.Sort.partition_holds Go.Sort.ltInt Go.Sort.swo_ltInt Ut a0 b0 p hp1 hp2 hszt).2.2.1
                rw [hR] at hpm
                rw [hR]
                rintro e w5 ⟨rfl, hv5, hf5⟩
                obtain ⟨m1, m2, msz, mB1, mB2, mL, mR⟩ := Go.Sort.round_part Go.Sort.swo_ltInt (Go.Sort.partition_holds Go.Sort.ltInt) hp1 hp2 hszt HBT.out hR
                have HN4 : Hid (U4.toList.Nodup) := nodup_all hpm hszt HNT.out
                have V_5 : Hid (Vec B w5 g n cap U4) := hv5
                have HSZ4 : Hid (U4.size = n) := hv5.size
                have F_5 : Hid (Fr (fun j => j = g) w w5) := F_q.out.step hf5
                obtain ⟨lm, hlm⟩ : ∃ q, q = mid - a0 := ⟨_, rfl⟩
                obtain ⟨rm, hrm⟩ : ∃ q, q = b0 - mid := ⟨_, rfl⟩
                obtain ⟨md1, hmd⟩ : ∃ q, mid + 1 = q := ⟨_, rfl⟩
                have j1 : IntKind.i64.wrap ((mid : Int) - (a0 : Int)) = (lm : Int) := by rw [IntWalk.i64_in _ (by omega)]; omega
                have j2 : IntKind.i64.wrap ((b0 : Int) - (mid : Int)) = (rm : Int) := by rw [IntWalk.i64_in _ (by omega)]; omega
                have j3 : IntKind.i64.wrap ((mid : Int) + 1) = (md1 : Int) := by rw [IntWalk.i64_in _ (by omega)]; omega
                have HMD := Lib.hid hmd
                have mm1 : md1 ≤ b0 := by omega
                have mm2 : a0 < md1 := by omega
                have mm3 : b0 - md1 < b0 - a0 := by omega
                have mm4 : mid - a0 < b0 - a0 := by omega
                have HLM := Lib.hid hlm
                have HRM := Lib.hid hrm
                clear hv5 hf5 hR hpm hszt hmd msz
                by_cases hlr : lm < rm
                · have j4 : (lm : Int) < (rm : Int) := by omega
                  clear hlm hrm hlr
                  go_wp2_with fail
                  refine (IH.out w5 U4 a0 mid (l) V_5.out (by omega) (by omega) (by omega) HN4.out mB1 (by omega) (by omega)).mono ?_
                  rintro e w6 ⟨rfl, U5, ⟨hp5, hs5⟩, hv6, hf6⟩
                  obtain ⟨nB, nD⟩ := mL U5 hp5 hs5
                  have HN5 : Hid (U5.toList.Nodup) := nodup_all hp5 (by rw [HSZ4.out]; omega) HN4.out
                  have HB5 : Hid (Go.Sort.Below Go.Sort.ltInt md1 b0 U5) := by rw [← HMD.out]; exact nB
                  have HL5 : Hid (Left V a b md1 b0 U5) := fun U' h1 h2 => by
                    rw [← HMD.out] at h1 h2
                    obtain ⟨r1, r2⟩ := nD U' h1 h2
                    exact HLF.out U' (Go.Sort.permIn_trans _ _ _ _ _ HPT.out r1) r2
                  have HV6 := Lib.hid hv6
                  have HF6 : Hid (Fr (fun j => j = g) w w6) := F_5.out.step hf6
                  clear hp5 hs5 hv6 hf6 nB nD mL mR mB1 mB2
                  go_wp2_with fail
                  go_roundw
                  case rel => exact ⟨md1, b0, l, _, _, U5, by omega, by omega, hbb, by omega, by omega, by go_num, rfl, rfl, rfl, rfl, HL5.out, HN5.out, HB5.out, HV6.out, HF6.out⟩
                  case measure => simp [intOf]; omega
                · have j4 : ¬ (lm : Int) < (rm : Int) := by omega
                  clear hlm hrm hlr
                  go_wp2_with fail
                  refine (IH.out w5 U4 md1 b0 (l) V_5.out (by omega) (by omega) (by omega) HN4.out (by rw [← HMD.out]; exact mB2) (by omega) (by omega)).mono ?_
                  rintro e w6 ⟨rfl, U5, ⟨hp5, hs5⟩, hv6, hf6⟩
                  rw [← HMD.out] at hp5 hs5
                  obtain ⟨nB, nD⟩ := mR U5 hp5 hs5
                  have HN5 : Hid (U5.toList.Nodup) := nodup_all hp5 (by rw [HSZ4.out]; omega) HN4.out
                  have HB5 : Hid (Go.Sort.Below Go.Sort.ltInt a0 mid U5) := nB
                  have HL5 : Hid (Left V a b a0 mid U5) := fun U' h1 h2 => by
                    obtain ⟨r1, r2⟩ := nD U' h1 h2
                    exact HLF.out U' (Go.Sort.permIn_trans _ _ _ _ _ HPT.out r1) r2
                  have HV6 := Lib.hid hv6
                  have HF6 : Hid (Fr (fun j => j = g) w w6) := F_5.out.step hf6
                  clear hp5 hs5 hv6 hf6 nB nD mL mR mB1 mB2
                  go_wp2_with fail
                  go_roundw
                  case rel => exact ⟨a0, mid, l, _, _, U5, haa, by omega, by omega, by omega, by omega, rfl, rfl, rfl, rfl, rfl, HL5.out, HN5.out, HB5.out, HV6.out, HF6.out⟩
                  case measure => simp [intOf]; omega
          | true =>
            rcases ht with rfl | rfl | rfl
            · skip
              obtain ⟨p, hpp⟩ : ∃ q, q = p0 := ⟨_, rfl⟩
              subst hpp
              have hp1 : a0 ≤ p := hp01
              have hp2 : p < b0 := hp02
              obtain ⟨Ut, hUt⟩ : ∃ q, U = q := ⟨_, rfl⟩
              have HPT : Hid (Go.Sort.PermIn a0 b0 U Ut) := by
                rw [← hUt]
                exact HP0.out
              have V_t : Hid (Vec B wp1 g n cap Ut) := by rw [← hUt]; exact V_p.out
              have F_t := F_p
              clear hUt
              obtain ⟨wt, hwt⟩ : ∃ q, wp1 = q := ⟨_, rfl⟩
              subst hwt
              have HBT : Hid (Go.Sort.Below Go.Sort.ltInt a0 b0 Ut) := HBEL.out.perm (by rw [HSZ.out]; exact hb0n) HPT.out
              have HNT : Hid (Ut.toList.Nodup) := nodup_all HPT.out (by rw [HSZ.out]; exact hb0n) HND.out
              by_cases ha0 : a0 = 0
              · have g1 : decide ((0 : Int) < (a0 : Int)) = false := decide_eq_false (by omega)
                have g2 : decide (0 < a0) = false := decide_eq_false (by omega)
                clear ha0
                go_wp2_with fail
                go_quiet (fail)
                have V_q : Hid (Vec B (wp1.drewN nq) g n cap Ut) := V_t.out.fr ((Fr.refl none0 wp1).drewN nq) (fun h => h)
                have F_q : Hid (Fr (fun j => j = g) w (wp1.drewN nq)) := F_t.out.drewN nq
                go_wp2_with fail
                obtain ⟨⟨mid, ap, U4⟩, hR⟩ : ∃ R, Go.Sort.partition Go.Sort.ltInt Ut a0 b0 p = R := ⟨_, rfl⟩
                refine (part_any B _ g n cap Ut a0 b0 p V_q.out hp1 hp2 hb0n (by omega)).mono ?_
                have hszt : b0 ≤ Ut.size := by rw [V_q.out.size]; exact hb0n
                have hpm := (Go.Sort.partition_holds Go.Sort.ltInt Go.Sort.swo_ltInt Ut a0 b0 p hp1 hp2 hszt).2.2.1
                rw [hR] at hpm
                rw [hR]
                rintro e w5 ⟨rfl, hv5, hf5⟩
                obtain ⟨m1, m2, msz, mB1, mB2, mL, mR⟩ := Go.Sort.round_part Go.Sort.swo_ltInt (Go.Sort.partition_holds Go.Sort.ltInt) hp1 hp2 hszt HBT.out hR
                have HN4 : Hid (U4.toList.Nodup) := nodup_all hpm hszt HNT.out
                have V_5 : Hid (Vec B w5 g n cap U4) := hv5
                have HSZ4 : Hid (U4.size = n) := hv5.size
                have F_5 : Hid (Fr (fun j => j = g) w w5) := F_q.out.step hf5
                obtain ⟨lm, hlm⟩ : ∃ q, q = mid - a0 := ⟨_, rfl⟩
                obtain ⟨rm, hrm⟩ : ∃ q, q = b0 - mid := ⟨_, rfl⟩
                obtain ⟨md1, hmd⟩ : ∃ q, mid + 1 = q := ⟨_, rfl⟩
                have j1 : IntKind.i64.wrap ((mid : Int) - (a0 : Int)) = (lm : Int) := by rw [IntWalk.i64_in _ (by omega)]; omega
                have j2 : IntKind.i64.wrap ((b0 : Int) - (mid : Int)) = (rm : Int) := by rw [IntWalk.i64_in _ (by omega)]; omega
                have j3 : IntKind.i64.wrap ((mid : Int) + 1) = (md1 : Int) := by rw [IntWalk.i64_in _ (by omega)]; omega
                have HMD := Lib.hid hmd
                have mm1 : md1 ≤ b0 := by omega
                have mm2 : a0 < md1 := by omega
                have mm3 : b0 - md1 < b0 - a0 := by omega
                have mm4 : mid - a0 < b0 - a0 := by omega
                have HLM := Lib.hid hlm
                have HRM := Lib.hid hrm
                clear hv5 hf5 hR hpm hszt hmd msz
                by_cases hlr : lm < rm
                · have j4 : (lm : Int) < (rm : Int) := by omega
                  clear hlm hrm hlr
                  go_wp2_with fail
                  refine (IH.out w5 U4 a0 mid (l) V_5.out (by omega) (by omega) (by omega) HN4.out mB1 (by omega) (by omega)).mono ?_
                  rintro e w6 ⟨rfl, U5, ⟨hp5, hs5⟩, hv6, hf6⟩
                  obtain ⟨nB, nD⟩ := mL U5 hp5 hs5
                  have HN5 : Hid (U5.toList.Nodup) := nodup_all hp5 (by rw [HSZ4.out]; omega) HN4.out
                  have HB5 : Hid (Go.Sort.Below Go.Sort.ltInt md1 b0 U5) := by rw [← HMD.out]; exact nB
                  have HL5 : Hid (Left V a b md1 b0 U5) := fun U' h1 h2 => by
                    rw [← HMD.out] at h1 h2
                    obtain ⟨r1, r2⟩ := nD U' h1 h2
                    exact HLF.out U' (Go.Sort.permIn_trans _ _ _ _ _ HPT.out r1) r2
                  have HV6 := Lib.hid hv6
                  have HF6 : Hid (Fr (fun j => j = g) w w6) := F_5.out.step hf6
                  clear hp5 hs5 hv6 hf6 nB nD mL mR mB1 mB2
                  go_wp2_with fail
                  go_roundw
                  case rel => exact ⟨md1, b0, l, _, _, U5, by omega, by omega, hbb, by omega, by omega, by go_num, rfl, rfl, rfl, rfl, HL5.out, HN5.out, HB5.out, HV6.out, HF6.out⟩
                  case measure => simp [intOf]; omega
                · have j4 : ¬ (lm : Int) < (rm : Int) := by omega
                  clear hlm hrm hlr
                  go_wp2_with fail
                  refine (IH.out w5 U4 md1 b0 (l) V_5.out (by omega) (by omega) (by omega) HN4.out (by rw [← HMD.out]; exact mB2) (by omega) (by omega)).mono ?_
                  rintro e w6 ⟨rfl, U5, ⟨hp5, hs5⟩, hv6, hf6⟩
                  rw [← HMD.out] at hp5 hs5
                  obtain ⟨nB, nD⟩ := mR U5 hp5 hs5
                  have HN5 : Hid (U5.toList.Nodup) := nodup_all hp5 (by rw [HSZ4.out]; omega) HN4.out
                  have HB5 : Hid (Go.Sort.Below Go.Sort.ltInt a0 mid U5) := nB
                  have HL5 : Hid (Left V a b a0 mid U5) := fun U' h1 h2 => by
                    obtain ⟨r1, r2⟩ := nD U' h1 h2
                    exact HLF.out U' (Go.Sort.permIn_trans _ _ _ _ _ HPT.out r1) r2
                  have HV6 := Lib.hid hv6
                  have HF6 : Hid (Fr (fun j => j = g) w w6) := F_5.out.step hf6
                  clear hp5 hs5 hv6 hf6 nB nD mL mR mB1 mB2
                  go_wp2_with fail
                  go_roundw
                  case rel => exact ⟨a0, mid, l, _, _, U5, haa, by omega, by omega, by omega, by omega, rfl, rfl, rfl, rfl, rfl, HL5.out, HN5.out, HB5.out, HV6.out, HF6.out⟩
                  case measure => simp [intOf]; omega
              · obtain ⟨am, ham⟩ : ∃ q, a0 = q + 1 := ⟨a0 - 1, by omega⟩
                have g1 : decide ((0 : Int) < (a0 : Int)) = true := decide_eq_true (by omega)
                have g2 : (0 : Int) < (a0 : Int) := by omega
                have g2b : 0 < a0 := by omega
                have g3 : IntKind.i64.wrap ((a0 : Int) - 1) = (am : Int) := by rw [IntWalk.i64_in _ (by omega)]; omega
                have g4 : (am : Int) < (n : Int) := by omega
                have g5 : (0 : Int) ≤ (am : Int) := by omega
                have g6 : (p : Int) < (n : Int) := by omega
                have g7 : (0 : Int) ≤ (p : Int) := by omega
                have d1 := V_t.out.cell (i := am) (by omega)
                have d2 := V_t.out.cell (i := p) (by omega)
                have hlt := below_lt HBT.out ham hp1 hp2 (by rw [V_t.out.size]; exact hb0n) HNT.out
                obtain ⟨x, hx⟩ : ∃ x, Ut[am]! = x := ⟨_, rfl⟩
                obtain ⟨y, hy⟩ : ∃ x, Ut[p]! = x := ⟨_, rfl⟩
                rw [hx] at d1 hlt
                rw [hy] at d2 hlt
                have HXY := Lib.hid hlt
                clear hx hy hlt ham ha0
                go_wp2_with fail
                go_quiet ((go_at_call 33; exact Calls.quiet_of_same (less_is _ x y true HXY.out)))
                have V_q : Hid (Vec B (wp1.drewN nq) g n cap Ut) := V_t.out.fr ((Fr.refl none0 wp1).drewN nq) (fun h => h)
                have F_q : Hid (Fr (fun j => j = g) w (wp1.drewN nq)) := F_t.out.drewN nq
                clear d1 d2
                go_wp2_with fail
                obtain ⟨⟨mid, ap, U4⟩, hR⟩ : ∃ R, Go.Sort.partition Go.Sort.ltInt Ut a0 b0 p = R := ⟨_, rfl⟩
                refine (part_any B _ g n cap Ut a0 b0 p V_q.out hp1 hp2 hb0n (by omega)).mono ?_
                have hszt : b0 ≤ Ut.size := by rw [V_q.out.size]; exact hb0n
                have hpm := (Go.Sort.partition_holds Go.Sort.ltInt Go.Sort.swo_ltInt Ut a0 b0 p hp1 hp2 hszt).2.2.1
                rw [hR] at hpm
                rw [hR]
                rintro e w5 ⟨rfl, hv5, hf5⟩
                obtain ⟨m1, m2, msz, mB1, mB2, mL, mR⟩ := Go.Sort.round_part Go.Sort.swo_ltInt (Go.Sort.partition_holds Go.Sort.ltInt) hp1 hp2 hszt HBT.out hR
                have HN4 : Hid (U4.toList.Nodup) := nodup_all hpm hszt HNT.out
                have V_5 : Hid (Vec B w5 g n cap U4) := hv5
                have HSZ4 : Hid (U4.size = n) := hv5.size
                have F_5 : Hid (Fr (fun j => j = g) w w5) := F_q.out.step hf5
                obtain ⟨lm, hlm⟩ : ∃ q, q = mid - a0 := ⟨_, rfl⟩
                obtain ⟨rm, hrm⟩ : ∃ q, q = b0 - mid := ⟨_, rfl⟩
                obtain ⟨md1, hmd⟩ : ∃ q, mid + 1 = q := ⟨_, rfl⟩
                have j1 : IntKind.i64.wrap ((mid : Int) - (a0 : Int)) = (lm : Int) := by rw [IntWalk.i64_in _ (by omega)]; omega
                have j2 : IntKind.i64.wrap ((b0 : Int) - (mid : Int)) = (rm : Int) := by rw [IntWalk.i64_in _ (by omega)]; omega
                have j3 : IntKind.i64.wrap ((mid : Int) + 1) = (md1 : Int) := by rw [IntWalk.i64_in _ (by omega)]; omega
                have HMD := Lib.hid hmd
                have mm1 : md1 ≤ b0 := by omega
                have mm2 : a0 < md1 := by omega
                have mm3 : b0 - md1 < b0 - a0 := by omega
                have mm4 : mid - a0 < b0 - a0 := by omega
                have HLM := Lib.hid hlm
                have HRM := Lib.hid hrm
                clear hv5 hf5 hR hpm hszt hmd msz
                by_cases hlr : lm < rm
                · have j4 : (lm : Int) < (rm : Int) := by omega
                  clear hlm hrm hlr
                  go_wp2_with fail
                  refine (IH.out w5 U4 a0 mid (l) V_5.out (by omega) (by omega) (by omega) HN4.out mB1 (by omega) (by omega)).mono ?_
                  rintro e w6 ⟨rfl, U5, ⟨hp5, hs5⟩, hv6, hf6⟩
                  obtain ⟨nB, nD⟩ := mL U5 hp5 hs5
                  have HN5 : Hid (U5.toList.Nodup) := nodup_all hp5 (by rw [HSZ4.out]; omega) HN4.out
                  have HB5 : Hid (Go.Sort.Below Go.Sort.ltInt md1 b0 U5) := by rw [← HMD.out]; exact nB
                  have HL5 : Hid (Left V a b md1 b0 U5) := fun U' h1 h2 => by
                    rw [← HMD.out] at h1 h2
                    obtain ⟨r1, r2⟩ := nD U' h1 h2
                    exact HLF.out U' (Go.Sort.permIn_trans _ _ _ _ _ HPT.out r1) r2
                  have HV6 := Lib.hid hv6
                  have HF6 : Hid (Fr (fun j => j = g) w w6) := F_5.out.step hf6
                  clear hp5 hs5 hv6 hf6 nB nD mL mR mB1 mB2
                  go_wp2_with fail
                  go_roundw
                  case rel => exact ⟨md1, b0, l, _, _, U5, by omega, by omega, hbb, by omega, by omega, by go_num, rfl, rfl, rfl, rfl, HL5.out, HN5.out, HB5.out, HV6.out, HF6.out⟩
                  case measure => simp [intOf]; omega
                · have j4 : ¬ (lm : Int) < (rm : Int) := by omega
                  clear hlm hrm hlr
                  go_wp2_with fail
                  refine (IH.out w5 U4 md1 b0 (l) V_5.out (by omega) (by omega) (by omega) HN4.out (by rw [← HMD.out]; exact mB2) (by omega) (by omega)).mono ?_
                  rintro e w6 ⟨rfl, U5, ⟨hp5, hs5⟩, hv6, hf6⟩
                  rw [← HMD.out] at hp5 hs5
                  obtain ⟨nB, nD⟩ := mR U5 hp5 hs5
                  have HN5 : Hid (U5.toList.Nodup) := nodup_all hp5 (by rw [HSZ4.out]; omega) HN4.out
                  have HB5 : Hid (Go.Sort.Below Go.Sort.ltInt a0 mid U5) := nB
                  have HL5 : Hid (Left V a b a0 mid U5) := fun U' h1 h2 => by
                    obtain ⟨r1, r2⟩ := nD U' h1 h2
                    exact HLF.out U' (Go.Sort.permIn_trans _ _ _ _ _ HPT.out r1) r2
                  have HV6 := Lib.hid hv6
                  have HF6 : Hid (Fr (fun j => j = g) w w6) := F_5.out.step hf6
                  clear hp5 hs5 hv6 hf6 nB nD mL mR mB1 mB2
                  go_wp2_with fail
                  go_roundw
                  case rel => exact ⟨a0, mid, l, _, _, U5, haa, by omega, by omega, by omega, by omega, rfl, rfl, rfl, rfl, rfl, HL5.out, HN5.out, HB5.out, HV6.out, HF6.out⟩
                  case measure => simp [intOf]; omega
            · skip
              obtain ⟨p, hpp⟩ : ∃ q, q = p0 := ⟨_, rfl⟩
              subst hpp
              have hp1 : a0 ≤ p := hp01
              have hp2 : p < b0 := hp02
              obtain ⟨Ut, hUt⟩ : ∃ q, U = q := ⟨_, rfl⟩
              have HPT : Hid (Go.Sort.PermIn a0 b0 U Ut) := by
                rw [← hUt]
                exact HP0.out
              have V_t : Hid (Vec B wp1 g n cap Ut) := by rw [← hUt]; exact V_p.out
              have F_t := F_p
              clear hUt
              obtain ⟨wt, hwt⟩ : ∃ q, wp1 = q := ⟨_, rfl⟩
              subst hwt
              go_wp2_with fail
              obtain ⟨⟨Uz, bz⟩, hRz⟩ : ∃ R, Go.Sort.partialInsertionSort Go.Sort.ltInt Ut a0 b0 = R := ⟨_, rfl⟩
              refine (pin_any B wp1 g n cap Ut a0 b0 V_t.out hab1 hb0n (by omega)).mono ?_
              have hszt : b0 ≤ Ut.size := by rw [V_t.out.size]; exact hb0n
              obtain ⟨z1, z2⟩ := Go.Sort.partialInsertionSort_holds Go.Sort.swo_ltInt Ut a0 b0 hab1 hszt (HBEL.out.perm (by rw [HSZ.out]; exact hb0n) HPT.out)
              rw [hRz] at z1 z2
              rw [hRz]
              rintro e wz ⟨rfl, hvz, hfz⟩
              have HPZ : Hid (Go.Sort.PermIn a0 b0 U Uz) := Go.Sort.permIn_trans _ _ _ _ _ HPT.out z1
              have V_z : Hid (Vec B wz g n cap Uz) := hvz
              have F_z : Hid (Fr (fun j => j = g) w wz) := F_t.out.step hfz
              cases bz with
              | true =>
                have HDN := Lib.hid (HLF.out Uz HPZ.out (z2 rfl))
                clear z1 z2 hRz hvz hfz hszt
                go_wp2_with fail
                first | go_end0 | refine bodyPost_ret (results_none rfl _ _ _) rfl ?_
                exact ⟨rfl, _, HDN.out, V_z.out, F_z.out⟩
              | false =>
                clear z1 z2 hRz hvz hfz hszt HPT V_t F_t
                clear Ut
                obtain ⟨Ut, hUt⟩ : ∃ q, Uz = q := ⟨_, rfl⟩
                subst hUt
                have HPT := HPZ
                have V_t := V_z
                have F_t := F_z
                clear HPZ V_z F_z
                have HBT : Hid (Go.Sort.Below Go.Sort.ltInt a0 b0 Uz) := HBEL.out.perm (by rw [HSZ.out]; exact hb0n) HPT.out
                have HNT : Hid (Uz.toList.Nodup) := nodup_all HPT.out (by rw [HSZ.out]; exact hb0n) HND.out
                by_cases ha0 : a0 = 0
                · have g1 : decide ((0 : Int) < (a0 : Int)) = false := decide_eq_false (by omega)
                  have g2 : decide (0 < a0) = false := decide_eq_false (by omega)
                  clear ha0
                  go_wp2_with fail
                  go_quiet (fail)
                  have V_q : Hid (Vec B (wz.drewN nq) g n cap Uz) := V_t.out.fr ((Fr.refl none0 wz).drewN nq) (fun h => h)
                  have F_q : Hid (Fr (fun j => j = g) w (wz.drewN nq)) := F_t.out.drewN nq
                  go_wp2_with fail
                  obtain ⟨⟨mid, ap, U4⟩, hR⟩ : ∃ R, Go.Sort.partition Go.Sort.ltInt Uz a0 b0 p = R := ⟨_, rfl⟩
                  refine (part_any B _ g n cap Uz a0 b0 p V_q.out hp1 hp2 hb0n (by omega)).mono ?_
                  have hszt : b0 ≤ Uz.size := by rw [V_q.out.size]; exact hb0n
                  have hpm := (Go.Sort.partition_holds Go.Sort.ltInt Go.Sort.swo_ltInt Uz a0 b0 p hp1 hp2 hszt).2.2.1
                  rw [hR] at hpm
                  rw [hR]
                  rintro e w5 ⟨rfl, hv5, hf5⟩
                  obtain ⟨m1, m2, msz, mB1, mB2, mL, mR⟩ := Go.Sort.round_part Go.Sort.swo_ltInt (Go.Sort.partition_holds Go.Sort.ltInt) hp1 hp2 hszt HBT.out hR
                  have HN4 : Hid (U4.toList.Nodup) := nodup_all hpm hszt HNT.out
                  have V_5 : Hid (Vec B w5 g n cap U4) := hv5
                  have HSZ4 : Hid (U4.size = n) := hv5.size
                  have F_5 : Hid (Fr (fun j => j = g) w w5) := F_q.out.step hf5
                  obtain ⟨lm, hlm⟩ : ∃ q, q = mid - a0 := ⟨_, rfl⟩
                  obtain ⟨rm, hrm⟩ : ∃ q, q = b0 - mid := ⟨_, rfl⟩
                  obtain ⟨md1, hmd⟩ : ∃ q, mid + 1 = q := ⟨_, rfl⟩
                  have j1 : IntKind.i64.wrap ((mid : Int) - (a0 : Int)) = (lm : Int) := by rw [IntWalk.i64_in _ (by omega)]; omega
                  have j2 : IntKind.i64.wrap ((b0 : Int) - (mid : Int)) = (rm : Int) := by rw [IntWalk.i64_in _ (by omega)]; omega
                  have j3 : IntKind.i64.wrap ((mid : Int) + 1) = (md1 : Int) := by rw [IntWalk.i64_in _ (by omega)]; omega
                  have HMD := Lib.hid hmd
                  have mm1 : md1 ≤ b0 := by omega
                  have mm2 : a0 < md1 := by omega
                  have mm3 : b0 - md1 < b0 - a0 := by omega
                  have mm4 : mid - a0 < b0 - a0 := by omega
                  have HLM := Lib.hid hlm
                  have HRM := Lib.hid hrm
                  clear hv5 hf5 hR hpm hszt hmd msz
                  by_cases hlr : lm < rm
                  · have j4 : (lm : Int) < (rm : Int) := by omega
                    clear hlm hrm hlr
                    go_wp2_with fail
                    refine (IH.out w5 U4 a0 mid (l) V_5.out (by omega) (by omega) (by omega) HN4.out mB1 (by omega) (by omega)).mono ?_
                    rintro e w6 ⟨rfl, U5, ⟨hp5, hs5⟩, hv6, hf6⟩
                    obtain ⟨nB, nD⟩ := mL U5 hp5 hs5
                    have HN5 : Hid (U5.toList.Nodup) := nodup_all hp5 (by rw [HSZ4.out]; omega) HN4.out
                    have HB5 : Hid (Go.Sort.Below Go.Sort.ltInt md1 b0 U5) := by rw [← HMD.out]; exact nB
                    have HL5 : Hid (Left V a b md1 b0 U5) := fun U' h1 h2 => by
                      rw [← HMD.out] at h1 h2
                      obtain ⟨r1, r2⟩ := nD U' h1 h2
                      exact HLF.out U' (Go.Sort.permIn_trans _ _ _ _ _ HPT.out r1) r2
                    have HV6 := Lib.hid hv6
                    have HF6 : Hid (Fr (fun j => j = g) w w6) := F_5.out.step hf6
                    clear hp5 hs5 hv6 hf6 nB nD mL mR mB1 mB2
                    go_wp2_with fail
                    go_roundw
                    case rel => exact ⟨md1, b0, l, _, _, U5, by omega, by omega, hbb, by omega, by omega, by go_num, rfl, rfl, rfl, rfl, HL5.out, HN5.out, HB5.out, HV6.out, HF6.out⟩
                    case measure => simp [intOf]; omega
                  · have j4 : ¬ (lm : Int) < (rm : Int) := by omega
                    clear hlm hrm hlr
                    go_wp2_with fail
                    refine (IH.out w5 U4 md1 b0 (l) V_5.out (by omega) (by omega) (by omega) HN4.out (by rw [← HMD.out]; exact mB2) (by omega) (by omega)).mono ?_
                    rintro e w6 ⟨rfl, U5, ⟨hp5, hs5⟩, hv6, hf6⟩
                    rw [← HMD.out] at hp5 hs5
                    obtain ⟨nB, nD⟩ := mR U5 hp5 hs5
                    have HN5 : Hid (U5.toList.Nodup) := nodup_all hp5 (by rw [HSZ4.out]; omega) HN4.out
                    have HB5 : Hid (Go.Sort.Below Go.Sort.ltInt a0 mid U5) := nB
                    have HL5 : Hid (Left V a b a0 mid U5) := fun U' h1 h2 => by
                      obtain ⟨r1, r2⟩ := nD U' h1 h2
                      exact HLF.out U' (Go.Sort.permIn_trans _ _ _ _ _ HPT.out r1) r2
                    have HV6 := Lib.hid hv6
                    have HF6 : Hid (Fr (fun j => j = g) w w6) := F_5.out.step hf6
                    clear hp5 hs5 hv6 hf6 nB nD mL mR mB1 mB2
                    go_wp2_with fail
                    go_roundw
                    case rel => exact ⟨a0, mid, l, _, _, U5, haa, by omega, by omega, by omega, by omega, rfl, rfl, rfl, rfl, rfl, HL5.out, HN5.out, HB5.out, HV6.out, HF6.out⟩
                    case measure => simp [intOf]; omega
                · obtain ⟨am, ham⟩ : ∃ q, a0 = q + 1 := ⟨a0 - 1, by omega⟩
                  have g1 : decide ((0 : Int) < (a0 : Int)) = true := decide_eq_true (by omega)
                  have g2 : (0 : Int) < (a0 : Int) := by omega
                  have g2b : 0 < a0 := by omega
                  have g3 : IntKind.i64.wrap ((a0 : Int) - 1) = (am : Int) := by rw [IntWalk.i64_in _ (by omega)]; omega
                  have g4 : (am : Int) < (n : Int) := by omega
                  have g5 : (0 : Int) ≤ (am : Int) := by omega
                  have g6 : (p : Int) < (n : Int) := by omega
                  have g7 : (0 : Int) ≤ (p : Int) := by omega
                  have d1 := V_t.out.cell (i := am) (by omega)
                  have d2 := V_t.out.cell (i := p) (by omega)
                  have hlt := below_lt HBT.out ham hp1 hp2 (by rw [V_t.out.size]; exact hb0n) HNT.out
                  obtain ⟨x, hx⟩ : ∃ x, Uz[am]! = x := ⟨_, rfl⟩
                  obtain ⟨y, hy⟩ : ∃ x, Uz[p]! = x := ⟨_, rfl⟩
                  rw [hx] at d1 hlt
                  rw [hy] at d2 hlt
                  have HXY := Lib.hid hlt
                  clear hx hy hlt ham ha0
                  go_wp2_with fail
                  go_quiet ((go_at_call 33; exact Calls.quiet_of_same (less_is _ x y true HXY.out)))
                  have V_q : Hid (Vec B (wz.drewN nq) g n cap Uz) := V_t.out.fr ((Fr.refl none0 wz).drewN nq) (fun h => h)
                  have F_q : Hid (Fr (fun j => j = g) w (wz.drewN nq)) := F_t.out.drewN nq
                  clear d1 d2
                  go_wp2_with fail
                  obtain ⟨⟨mid, ap, U4⟩, hR⟩ : ∃ R, Go.Sort.partition Go.Sort.ltInt Uz a0 b0 p = R := ⟨_, rfl⟩
                  refine (part_any B _ g n cap Uz a0 b0 p V_q.out hp1 hp2 hb0n (by omega)).mono ?_
                  have hszt : b0 ≤ Uz.size := by rw [V_q.out.size]; exact hb0n
                  have hpm := (Go.Sort.partition_holds Go.Sort.ltInt Go.Sort.swo_ltInt Uz a0 b0 p hp1 hp2 hszt).2.2.1
                  rw [hR] at hpm
                  rw [hR]
                  rintro e w5 ⟨rfl, hv5, hf5⟩
                  obtain ⟨m1, m2, msz, mB1, mB2, mL, mR⟩ := Go.Sort.round_part Go.Sort.swo_ltInt (Go.Sort.partition_holds Go.Sort.ltInt) hp1 hp2 hszt HBT.out hR
                  have HN4 : Hid (U4.toList.Nodup) := nodup_all hpm hszt HNT.out
                  have V_5 : Hid (Vec B w5 g n cap U4) := hv5
                  have HSZ4 : Hid (U4.size = n) := hv5.size
                  have F_5 : Hid (Fr (fun j => j = g) w w5) := F_q.out.step hf5
                  obtain ⟨lm, hlm⟩ : ∃ q, q = mid - a0 := ⟨_, rfl⟩
                  obtain ⟨rm, hrm⟩ : ∃ q, q = b0 - mid := ⟨_, rfl⟩
                  obtain ⟨md1, hmd⟩ : ∃ q, mid + 1 = q := ⟨_, rfl⟩
                  have j1 : IntKind.i64.wrap ((mid : Int) - (a0 : Int)) = (lm : Int) := by rw [IntWalk.i64_in _ (by omega)]; omega
                  have j2 : IntKind.i64.wrap ((b0 : Int) - (mid : Int)) = (rm : Int) := by rw [IntWalk.i64_in _ (by omega)]; omega
                  have j3 : IntKind.i64.wrap ((mid : Int) + 1) = (md1 : Int) := by rw [IntWalk.i64_in _ (by omega)]; omega
                  have HMD := Lib.hid hmd
                  have mm1 : md1 ≤ b0 := by omega
                  have mm2 : a0 < md1 := by omega
                  have mm3 : b0 - md1 < b0 - a0 := by omega
                  have mm4 : mid - a0 < b0 - a0 := by omega
                  have HLM := Lib.hid hlm
                  have HRM := Lib.hid hrm
                  clear hv5 hf5 hR hpm hszt hmd msz
                  by_cases hlr : lm < rm
                  · have j4 : (lm : Int) < (rm : Int) := by omega
                    clear hlm hrm hlr
                    go_wp2_with fail
                    refine (IH.out w5 U4 a0 mid (l) V_5.out (by omega) (by omega) (by omega) HN4.out mB1 (by omega) (by omega)).mono ?_
                    rintro e w6 ⟨rfl, U5, ⟨hp5, hs5⟩, hv6, hf6⟩
                    obtain ⟨nB, nD⟩ := mL U5 hp5 hs5
                    have HN5 : Hid (U5.toList.Nodup) := nodup_all hp5 (by rw [HSZ4.out]; omega) HN4.out
                    have HB5 : Hid (Go.Sort.Below Go.Sort.ltInt md1 b0 U5) := by rw [← HMD.out]; exact nB
                    have HL5 : Hid (Left V a b md1 b0 U5) := fun U' h1 h2 => by
                      rw [← HMD.out] at h1 h2
                      obtain ⟨r1, r2⟩ := nD U' h1 h2
                      exact HLF.out U' (Go.Sort.permIn_trans _ _ _ _ _ HPT.out r1) r2
                    have HV6 := Lib.hid hv6
                    have HF6 : Hid (Fr (fun j => j = g) w w6) := F_5.out.step hf6
                    clear hp5 hs5 hv6 hf6 nB nD mL mR mB1 mB2
                    go_wp2_with fail
                    go_roundw
                    case rel => exact ⟨md1, b0, l, _, _, U5, by omega, by omega, hbb, by omega, by omega, by go_num, rfl, rfl, rfl, rfl, HL5.out, HN5.out, HB5.out, HV6.out, HF6.out⟩
                    case measure => simp [intOf]; omega
                  · have j4 : ¬ (lm : Int) < (rm : Int) := by omega
                    clear hlm hrm hlr
                    go_wp2_with fail
                    refine (IH.out w5 U4 md1 b0 (l) V_5.out (by omega) (by omega) (by omega) HN4.out (by rw [← HMD.out]; exact mB2) (by omega) (by omega)).mono ?_
                    rintro e w6 ⟨rfl, U5, ⟨hp5, hs5⟩, hv6, hf6⟩
                    rw [← HMD.out] at hp5 hs5
                    obtain ⟨nB, nD⟩ := mR U5 hp5 hs5
                    have HN5 : Hid (U5.toList.Nodup) := nodup_all hp5 (by rw [HSZ4.out]; omega) HN4.out
                    have HB5 : Hid (Go.Sort.Below Go.Sort.ltInt a0 mid U5) := nB
                    have HL5 : Hid (Left V a b a0 mid U5) := fun U' h1 h2 => by
                      obtain ⟨r1, r2⟩ := nD U' h1 h2
                      exact HLF.out U' (Go.Sort.permIn_trans _ _ _ _ _ HPT.out r1) r2
                    have HV6 := Lib.hid hv6
                    have HF6 : Hid (Fr (fun j => j = g) w w6) := F_5.out.step hf6
                    clear hp5 hs5 hv6 hf6 nB nD mL mR mB1 mB2
                    go_wp2_with fail
                    go_roundw
                    case rel => exact ⟨a0, mid, l, _, _, U5, haa, by omega, by omega, by omega, by omega, rfl, rfl, rfl, rfl, rfl, HL5.out, HN5.out, HB5.out, HV6.out, HF6.out⟩
                    case measure => simp [intOf]; omega
            · skip
              obtain ⟨r1, hr1⟩ : ∃ q, q = p0 - a0 := ⟨_, rfl⟩
              obtain ⟨p, hpp⟩ : ∃ q, q = b1 - r1 := ⟨_, rfl⟩
              have hbb1 := HB1.out
              have v1 : IntKind.i64.wrap ((p0 : Int) - (a0 : Int)) = (r1 : Int) := by rw [IntWalk.i64_in _ (by omega)]; omega
              have v2 : IntKind.i64.wrap ((b1 : Int) - (r1 : Int)) = (p : Int) := by rw [IntWalk.i64_in _ (by omega)]; omega
              have hp1 : a0 ≤ p := by omega
              have hp2 : p < b0 := by omega
              clear hr1 hpp hbb1
              go_wp2_with fail
              refine (rev_any B wp1 g n cap U a0 b0 V_p.out hab1 hb0n (by omega)).mono ?_
              rintro e wt ⟨rfl, Ut, hpr, hv7, hf7⟩
              have HPT : Hid (Go.Sort.PermIn a0 b0 U Ut) := hpr
              have V_t := Lib.hid hv7
              have F_t : Hid (Fr (fun j => j = g) w wt) := F_p.out.step hf7
              clear hpr hv7 hf7
              go_wp2_with fail
              obtain ⟨⟨Uz, bz⟩, hRz⟩ : ∃ R, Go.Sort.partialInsertionSort Go.Sort.ltInt Ut a0 b0 = R := ⟨_, rfl⟩
              refine (pin_any B wt g n cap Ut a0 b0 V_t.out hab1 hb0n (by omega)).mono ?_
              have hszt : b0 ≤ Ut.size := by rw [V_t.out.size]; exact hb0n
              obtain ⟨z1, z2⟩ := Go.Sort.partialInsertionSort_holds Go.Sort.swo_ltInt Ut a0 b0 hab1 hszt (HBEL.out.perm (by rw [HSZ.out]; exact hb0n) HPT.out)
              rw [hRz] at z1 z2
              rw [hRz]
              rintro e wz ⟨rfl, hvz, hfz⟩
              have HPZ : Hid (Go.Sort.PermIn a0 b0 U Uz) := Go.Sort.permIn_trans _ _ _ _ _ HPT.out z1
              have V_z : Hid (Vec B wz g n cap Uz) := hvz
              have F_z : Hid (Fr (fun j => j = g) w wz) := F_t.out.step hfz
              cases bz with
              | true =>
                have HDN := Lib.hid (HLF.out Uz HPZ.out (z2 rfl))
                clear z1 z2 hRz hvz hfz hszt
                go_wp2_with fail
                first | go_end0 | refine bodyPost_ret (results_none rfl _ _ _) rfl ?_
                exact ⟨rfl, _, HDN.out, V_z.out, F_z.out⟩
              | false =>
                clear z1 z2 hRz hvz hfz hszt HPT V_t F_t
                clear Ut
                obtain ⟨Ut, hUt⟩ : ∃ q, Uz = q := ⟨_, rfl⟩
                subst hUt
                have HPT := HPZ
                have V_t := V_z
                have F_t := F_z
                clear HPZ V_z F_z
                have HBT : Hid (Go.Sort.Below Go.Sort.ltInt a0 b0 Uz) := HBEL.out.perm (by rw [HSZ.out]; exact hb0n) HPT.out
                have HNT : Hid (Uz.toList.Nodup) := nodup_all HPT.out (by rw [HSZ.out]; exact hb0n) HND.out
                by_cases ha0 : a0 = 0
                · have g1 : decide ((0 : Int) < (a0 : Int)) = false := decide_eq_false (by omega)
                  have g2 : decide (0 < a0) = false := decide_eq_false (by omega)
                  clear ha0
                  go_wp2_with fail
                  go_quiet (fail)
                  have V_q : Hid (Vec B (wz.drewN nq) g n cap Uz) := V_t.out.fr ((Fr.refl none0 wz).drewN nq) (fun h => h)
                  have F_q : Hid (Fr (fun j => j = g) w (wz.drewN nq)) := F_t.out.drewN nq
                  go_wp2_with fail
                  obtain ⟨⟨mid, ap, U4⟩, hR⟩ : ∃ R, Go.Sort.partition Go.Sort.ltInt Uz a0 b0 p = R := ⟨_, rfl⟩
                  refine (part_any B _ g n cap Uz a0 b0 p V_q.out hp1 hp2 hb0n (by omega)).mono ?_
                  have hszt : b0 ≤ Uz.size := by rw [V_q.out.size]; exact hb0n
                  have hpm := (Go.Sort.partition_holds Go.Sort.ltInt Go.Sort.swo_ltInt Uz a0 b0 p hp1 hp2 hszt).2.2.1
                  rw [hR] at hpm
                  rw [hR]
                  rintro e w5 ⟨rfl, hv5, hf5⟩
                  obtain ⟨m1, m2, msz, mB1, mB2, mL, mR⟩ := Go.Sort.round_part Go.Sort.swo_ltInt (Go.Sort.partition_holds Go.Sort.ltInt) hp1 hp2 hszt HBT.out hR
                  have HN4 : Hid (U4.toList.Nodup) := nodup_all hpm hszt HNT.out
                  have V_5 : Hid (Vec B w5 g n cap U4) := hv5
                  have HSZ4 : Hid (U4.size = n) := hv5.size
                  have F_5 : Hid (Fr (fun j => j = g) w w5) := F_q.out.step hf5
                  obtain ⟨lm, hlm⟩ : ∃ q, q = mid - a0 := ⟨_, rfl⟩
                  obtain ⟨rm, hrm⟩ : ∃ q, q = b0 - mid := ⟨_, rfl⟩
                  obtain ⟨md1, hmd⟩ : ∃ q, mid + 1 = q := ⟨_, rfl⟩
                  have j1 : IntKind.i64.wrap ((mid : Int) - (a0 : Int)) = (lm : Int) := by rw [IntWalk.i64_in _ (by omega)]; omega
                  have j2 : IntKind.i64.wrap ((b0 : Int) - (mid : Int)) = (rm : Int) := by rw [IntWalk.i64_in _ (by omega)]; omega
                  have j3 : IntKind.i64.wrap ((mid : Int) + 1) = (md1 : Int) := by rw [IntWalk.i64_in _ (by omega)]; omega
                  have HMD := Lib.hid hmd
                  have mm1 : md1 ≤ b0 := by omega
                  have mm2 : a0 < md1 := by omega
                  have mm3 : b0 - md1 < b0 - a0 := by omega
                  have mm4 : mid - a0 < b0 - a0 := by omega
                  have HLM := Lib.hid hlm
                  have HRM := Lib.hid hrm
                  clear hv5 hf5 hR hpm hszt hmd msz
                  by_cases hlr : lm < rm
                  · have j4 : (lm : Int) < (rm : Int) := by omega
                    clear hlm hrm hlr
                    go_wp2_with fail
                    refine (IH.out w5 U4 a0 mid (l) V_5.out (by omega) (by omega) (by omega) HN4.out mB1 (by omega) (by omega)).mono ?_
                    rintro e w6 ⟨rfl, U5, ⟨hp5, hs5⟩, hv6, hf6⟩
                    obtain ⟨nB, nD⟩ := mL U5 hp5 hs5
                    have HN5 : Hid (U5.toList.Nodup) := nodup_all hp5 (by rw [HSZ4.out]; omega) HN4.out
                    have HB5 : Hid (Go.Sort.Below Go.Sort.ltInt md1 b0 U5) := by rw [← HMD.out]; exact nB
                    have HL5 : Hid (Left V a b md1 b0 U5) := fun U' h1 h2 => by
                      rw [← HMD.out] at h1 h2
                      obtain ⟨r1, r2⟩ := nD U' h1 h2
                      exact HLF.out U' (Go.Sort.permIn_trans _ _ _ _ _ HPT.out r1) r2
                    have HV6 := Lib.hid hv6
                    have HF6 : Hid (Fr (fun j => j = g) w w6) := F_5.out.step hf6
                    clear hp5 hs5 hv6 hf6 nB nD mL mR mB1 mB2
                    go_wp2_with fail
                    go_roundw
                    case rel => exact ⟨md1, b0, l, _, _, U5, by omega, by omega, hbb, by omega, by omega, by go_num, rfl, rfl, rfl, rfl, HL5.out, HN5.out, HB5.out, HV6.out, HF6.out⟩
                    case measure => simp [intOf]; omega
                  · have j4 : ¬ (lm : Int) < (rm : Int) := by omega
                    clear hlm hrm hlr
                    go_wp2_with fail
                    refine (IH.out w5 U4 md1 b0 (l) V_5.out (by omega) (by omega) (by omega) HN4.out (by rw [← HMD.out]; exact mB2) (by omega) (by omega)).mono ?_
                    rintro e w6 ⟨rfl, U5, ⟨hp5, hs5⟩, hv6, hf6⟩
                    rw [← HMD.out] at hp5 hs5
                    obtain ⟨nB, nD⟩ := mR U5 hp5 hs5
                    have HN5 : Hid (U5.toList.Nodup) := nodup_all hp5 (by rw [HSZ4.out]; omega) HN4.out
                    have HB5 : Hid (Go.Sort.Below Go.Sort.ltInt a0 mid U5) := nB
                    have HL5 : Hid (Left V a b a0 mid U5) := fun U' h1 h2 => by
                      obtain ⟨r1, r2⟩ := nD U' h1 h2
                      exact HLF.out U' (Go.Sort.permIn_trans _ _ _ _ _ HPT.out r1) r2
                    have HV6 := Lib.hid hv6
                    have HF6 : Hid (Fr (fun j => j = g) w w6) := F_5.out.step hf6
                    clear hp5 hs5 hv6 hf6 nB nD mL mR mB1 mB2
                    go_wp2_with fail
                    go_roundw
                    case rel => exact ⟨a0, mid, l, _, _, U5, haa, by omega, by omega, by omega, by omega, rfl, rfl, rfl, rfl, rfl, HL5.out, HN5.out, HB5.out, HV6.out, HF6.out⟩
                    case measure => simp [intOf]; omega
                · obtain ⟨am, ham⟩ : ∃ q, a0 = q + 1 := ⟨a0 - 1, by omega⟩
                  have g1 : decide ((0 : Int) < (a0 : Int)) = true := decide_eq_true (by omega)
                  have g2 : (0 : Int) < (a0 : Int) := by omega
                  have g2b : 0 < a0 := by omega
                  have g3 : IntKind.i64.wrap ((a0 : Int) - 1) = (am : Int) := by rw [IntWalk.i64_in _ (by omega)]; omega
                  have g4 : (am : Int) < (n : Int) := by omega
                  have g5 : (0 : Int) ≤ (am : Int) := by omega
                  have g6 : (p : Int) < (n : Int) := by omega
                  have g7 : (0 : Int) ≤ (p : Int) := by omega
                  have d1 := V_t.out.cell (i := am) (by omega)
                  have d2 := V_t.out.cell (i := p) (by omega)
                  have hlt := below_lt HBT.out ham hp1 hp2 (by rw [V_t.out.size]; exact hb0n) HNT.out
                  obtain ⟨x, hx⟩ : ∃ x, Uz[am]! = x := ⟨_, rfl⟩
                  obtain ⟨y, hy⟩ : ∃ x, Uz[p]! = x := ⟨_, rfl⟩
                  rw [hx] at d1 hlt
                  rw [hy] at d2 hlt
                  have HXY := Lib.hid hlt
                  clear hx hy hlt ham ha0
                  go_wp2_with fail
                  go_quiet ((go_at_call 33; exact Calls.quiet_of_same (less_is _ x y true HXY.out)))
                  have V_q : Hid (Vec B (wz.drewN nq) g n cap Uz) := V_t.out.fr ((Fr.refl none0 wz).drewN nq) (fun h => h)
                  have F_q : Hid (Fr (fun j => j = g) w (wz.drewN nq)) := F_t.out.drewN nq
                  clear d1 d2
                  go_wp2_with fail
                  obtain ⟨⟨mid, ap, U4⟩, hR⟩ : ∃ R, Go.Sort.partition Go.Sort.ltInt Uz a0 b0 p = R := ⟨_, rfl⟩
                  refine (part_any B _ g n cap Uz a0 b0 p V_q.out hp1 hp2 hb0n (by omega)).mono ?_
                  have hszt : b0 ≤ Uz.size := by rw [V_q.out.size]; exact hb0n
                  have hpm := (Go.Sort.partition_holds Go.Sort.ltInt Go.Sort.swo_ltInt Uz a0 b0 p hp1 hp2 hszt).2.2.1
                  rw [hR] at hpm
                  rw [hR]
                  rintro e w5 ⟨rfl, hv5, hf5⟩
                  obtain ⟨m1, m2, msz, mB1, mB2, mL, mR⟩ := Go.Sort.round_part Go.Sort.swo_ltInt (Go.Sort.partition_holds Go.Sort.ltInt) hp1 hp2 hszt HBT.out hR
                  have HN4 : Hid (U4.toList.Nodup) := nodup_all hpm hszt HNT.out
                  have V_5 : Hid (Vec B w5 g n cap U4) := hv5
                  have HSZ4 : Hid (U4.size = n) := hv5.size
                  have F_5 : Hid (Fr (fun j => j = g) w w5) := F_q.out.step hf5
                  obtain ⟨lm, hlm⟩ : ∃ q, q = mid - a0 := ⟨_, rfl⟩
                  obtain ⟨rm, hrm⟩ : ∃ q, q = b0 - mid := ⟨_, rfl⟩
                  obtain ⟨md1, hmd⟩ : ∃ q, mid + 1 = q := ⟨_, rfl⟩
                  have j1 : IntKind.i64.wrap ((mid : Int) - (a0 : Int)) = (lm : Int) := by rw [IntWalk.i64_in _ (by omega)]; omega
                  have j2 : IntKind.i64.wrap ((b0 : Int) - (mid : Int)) = (rm : Int) := by rw [IntWalk.i64_in _ (by omega)]; omega
                  have j3 : IntKind.i64.wrap ((mid : Int) + 1) = (md1 : Int) := by rw [IntWalk.i64_in _ (by omega)]; omega
                  have HMD := Lib.hid hmd
                  have mm1 : md1 ≤ b0 := by omega
                  have mm2 : a0 < md1 := by omega
                  have mm3 : b0 - md1 < b0 - a0 := by omega
                  have mm4 : mid - a0 < b0 - a0 := by omega
                  have HLM := Lib.hid hlm
                  have HRM := Lib.hid hrm
                  clear hv5 hf5 hR hpm hszt hmd msz
                  by_cases hlr : lm < rm
                  · have j4 : (lm : Int) < (rm : Int) := by omega
                    clear hlm hrm hlr
                    go_wp2_with fail
                    refine (IH.out w5 U4 a0 mid (l) V_5.out (by omega) (by omega) (by omega) HN4.out mB1 (by omega) (by omega)).mono ?_
                    rintro e w6 ⟨rfl, U5, ⟨hp5, hs5⟩, hv6, hf6⟩
                    obtain ⟨nB, nD⟩ := mL U5 hp5 hs5
                    have HN5 : Hid (U5.toList.Nodup) := nodup_all hp5 (by rw [HSZ4.out]; omega) HN4.out
                    have HB5 : Hid (Go.Sort.Below Go.Sort.ltInt md1 b0 U5) := by rw [← HMD.out]; exact nB
                    have HL5 : Hid (Left V a b md1 b0 U5) := fun U' h1 h2 => by
                      rw [← HMD.out] at h1 h2
                      obtain ⟨r1, r2⟩ := nD U' h1 h2
                      exact HLF.out U' (Go.Sort.permIn_trans _ _ _ _ _ HPT.out r1) r2
                    have HV6 := Lib.hid hv6
                    have HF6 : Hid (Fr (fun j => j = g) w w6) := F_5.out.step hf6
                    clear hp5 hs5 hv6 hf6 nB nD mL mR mB1 mB2
                    go_wp2_with fail
                    go_roundw
                    case rel => exact ⟨md1, b0, l, _, _, U5, by omega, by omega, hbb, by omega, by omega, by go_num, rfl, rfl, rfl, rfl, HL5.out, HN5.out, HB5.out, HV6.out, HF6.out⟩
                    case measure => simp [intOf]; omega
                  · have j4 : ¬ (lm : Int) < (rm : Int) := by omega
                    clear hlm hrm hlr
                    go_wp2_with fail
                    refine (IH.out w5 U4 md1 b0 (l) V_5.out (by omega) (by omega) (by omega) HN4.out (by rw [← HMD.out]; exact mB2) (by omega) (by omega)).mono ?_
                    rintro e w6 ⟨rfl, U5, ⟨hp5, hs5⟩, hv6, hf6⟩
                    rw [← HMD.out] at hp5 hs5
                    obtain ⟨nB, nD⟩ := mR U5 hp5 hs5
                    have HN5 : Hid (U5.toList.Nodup) := nodup_all hp5 (by rw [HSZ4.out]; omega) HN4.out
                    have HB5 : Hid (Go.Sort.Below Go.Sort.ltInt a0 mid U5) := nB
                    have HL5 : Hid (Left V a b a0 mid U5) := fun U' h1 h2 => by
                      obtain ⟨r1, r2⟩ := nD U' h1 h2
                      exact HLF.out U' (Go.Sort.permIn_trans _ _ _ _ _ HPT.out r1) r2
                    have HV6 := Lib.hid hv6
                    have HF6 : Hid (Fr (fun j => j = g) w w6) := F_5.out.step hf6
                    clear hp5 hs5 hv6 hf6 nB nD mL mR mB1 mB2
                    go_wp2_with fail
                    go_roundw
                    case rel => exact ⟨a0, mid, l, _, _, U5, haa, by omega, by omega, by omega, by omega, rfl, rfl, rfl, rfl, rfl, HL5.out, HN5.out, HB5.out, HV6.out, HF6.out⟩
                    case measure => simp [intOf]; omega
/-- At parts of whatever length. -/
theorem pdq_at (B g n cap : Nat) (hn : n ≤ 200) : ∀ N, PdqAt B g n cap N
  | 0 => fun _ _ _ _ _ _ _ _ h => absurd h (Nat.not_lt_zero _)
  | N + 1 => pdq_step B g n cap N hn (pdq_at B g n cap hn N)
end Go.Proofs.Yteglklcaaicjjaa
