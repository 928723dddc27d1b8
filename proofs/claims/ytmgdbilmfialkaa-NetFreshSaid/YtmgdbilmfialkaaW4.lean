/- Contracts of Waits and Send, by walks. -/
import Derived.Test.YtmgdbilmfialkaaW3
namespace Go.Proofs.Ytmgdbilmfialkaa
open Go.RowKit Go.WideShapes Go.Maps

/-- How many bytes wait. -/
def waitsR (A : List Ab) (k way : Int) : Nat := match findA A k with
  | none => 0
  | some x => if way = 0 then x.b0.length else if way = 1 then x.b1.length else 0
def sendR (A : List Ab) (k way : Int) (bs : List Value) : Int × List Ab := match findA A k with
  | none => (7, A)
  | some x => if way = 0 then (if 4194304 < x.b0.length + bs.length then (3, A) else (0, setA A k 0 (x.b0 ++ bs)))
    else if way = 1 then (if 4194304 < x.b1.length + bs.length then (3, A) else (0, setA A k 1 (x.b1 ++ bs))) else (2, A)
section
variable {L : List Ln} {k way : Int} {x : Ln}
theorem waits_none (h : findL L k = none) : waitsR (L.map Ln.ab) k way = 0 := by unfold waitsR; rw [find_ab, h]; rfl
theorem waits_some (h : findL L k = some x) : waitsR (L.map Ln.ab) k way = if way = 0 then x.b0.length else if way = 1 then x.b1.length else 0 := by unfold waitsR; rw [find_ab, h]; rfl
theorem send_none {bs : List Value} (h : findL L k = none) : sendR (L.map Ln.ab) k way bs = (7, L.map Ln.ab) := by unfold sendR; rw [find_ab, h]; rfl
theorem send_some {bs : List Value} (h : findL L k = some x) : sendR (L.map Ln.ab) k way bs = if way = 0 then (if 4194304 < x.b0.length + bs.length then (3, L.map Ln.ab) else (0, setA (L.map Ln.ab) k 0 (x.b0 ++ bs)))
    else if way = 1 then (if 4194304 < x.b1.length + bs.length then (3, L.map Ln.ab) else (0, setA (L.map Ln.ab) k 1 (x.b1 ++ bs))) else (2, L.map Ln.ab) := by unfold sendR; rw [find_ab, h]; rfl
end

theorem waits_any (B : Nat) (w : World) (pb mb : Nat) (last : Int) (A : List Ab) (own : Own) (k way : Int) (h : NetA B w pb mb last A own) (h1 : -9223372036854775808 ≤ k) (h2 : k ≤ 9223372036854775807) :
    Calls Try.prog 13 #[.pointer (some ⟨pb, 0, none⟩), .int .i64 k, .int .i64 way] w fun e w' => e = .returned (.int .i64 (waitsR A k way : Int)) ∧ w = w' := by
  obtain ⟨L, rfl, h⟩ := h
  have H := Lib.hid h
  cases hf : findL L k with
  | none =>
    rw [waits_none hf]
    have HF := Lib.hid hf
    clear h hf
    go_enter Try.func13, Try.ntmps13
    go_wp2_with fail
    refine (at_none B w pb mb last L own k way H.out h1 h2 HF.out).mono ?_
    rintro e w1 ⟨rfl, rfl⟩
    go_wp2_with fail
    go_ret
    exact ⟨rfl, rfl⟩
  | some x =>
    rw [waits_some hf]
    have HF := Lib.hid hf
    have hX := h.each x (findL_mem hf).1
    have d0 : w.cell? ⟨x.lb, 0, none⟩ = some (.slice x.a0 x.b0.length x.c0) := hX.blk.cell 0
    have d1 : w.cell? ⟨x.lb, 1, none⟩ = some (.slice x.a1 x.b1.length x.c1) := hX.blk.cell 1
    clear h hf hX
    by_cases h0 : way = 0
    · subst h0
      go_enter Try.func13, Try.ntmps13
      go_wp2_with fail
      refine (at_ok B w pb mb last L own k 0 x H.out h1 h2 HF.out (Or.inl rfl)).mono ?_
      rintro e w1 ⟨rfl, rfl⟩
      go_wp2_with fail
      go_ret
      exact ⟨rfl, rfl⟩
    · by_cases h01 : way = 1
      · subst h01
        go_enter Try.func13, Try.ntmps13
        go_wp2_with fail
        refine (at_ok B w pb mb last L own k 1 x H.out h1 h2 HF.out (Or.inr rfl)).mono ?_
        rintro e w1 ⟨rfl, rfl⟩
        go_wp2_with fail
        go_ret
        exact ⟨rfl, rfl⟩
      · rw [if_neg h0, if_neg h01]
        have H0 := Lib.hid h0
        have H01 := Lib.hid h01
        clear h0 h01
        go_enter Try.func13, Try.ntmps13
        go_wp2_with fail
        refine (at_bad B w pb mb last L own k way x H.out h1 h2 HF.out H0.out H01.out).mono ?_
        rintro e w1 ⟨rfl, rfl⟩
        go_wp2_with fail
        go_ret
        exact ⟨rfl, rfl⟩

set_option maxHeartbeats 1000000 in
theorem send_any (B : Nat) (w : World) (pb mb : Nat) (last : Int) (A : List Ab) (own : Own) (k way : Int) (bo : Option Addr) (bn bc : Nat) (bs : List Value) (h : NetA B w pb mb last A own) (hB : B ≤ w.heap.size) (h1 : -9223372036854775808 ≤ k) (h2 : k ≤ 9223372036854775807)
    (hb : Src w 1 bo bn bs) (hy : AllB bs) (_ : bn ≤ 9223372036854775807) :
    Calls Try.prog 11 #[.pointer (some ⟨pb, 0, none⟩), .int .i64 k, .int .i64 way, .slice bo bn bc] w fun e w' => e = .returned (.int .i64 (sendR A k way bs).1) ∧ Aft B pb mb last (sendR A k way bs).2 own w w' := by
  obtain ⟨L, rfl, h⟩ := h
  have H := Lib.hid h
  have HA : Hid (Aft B pb mb last (L.map Ln.ab) own w w) := NetA.aft ⟨L, rfl, h⟩ (Below.refl _ _)
  have hbl := hb.len1
  obtain ⟨i0, hi, hz0, hz1, hz2⟩ := info_parts inf5
  cases hf : findL L k with
  | none =>
    rw [send_none hf]
    have HF := Lib.hid hf
    clear h hf hb
    go_enter Try.func11, Try.ntmps11
    go_wp2_with fail
    refine (at_none B w pb mb last L own k way H.out h1 h2 HF.out).mono ?_
    rintro e w1 ⟨rfl, rfl⟩
    go_wp2_with fail
    go_ret
    exact ⟨rfl, HA.out⟩
  | some x =>
    rw [send_some hf, hbl]
    have HF := Lib.hid hf
    have hX := h.each x (findL_mem hf).1
    have d0 : w.cell? ⟨x.lb, 0, none⟩ = some (.slice x.a0 x.b0.length x.c0) := hX.blk.cell 0
    have d1 : w.cell? ⟨x.lb, 1, none⟩ = some (.slice x.a1 x.b1.length x.c1) := hX.blk.cell 1
    have HX := Lib.hid hX
    have l0 := hX.l0
    have l1 := hX.l1
    have HBS := Lib.hid hb
    have HY := Lib.hid hy
    have HO := Lib.hid hy.one
    clear h hf hX hb hy
    by_cases h0 : way = 0
    · subst h0
      rw [if_pos rfl]
      by_cases hlim : 4194304 < x.b0.length + bn
      · have q1 : (4194304 : Int) - (x.b0.length : Int) < (bn : Int) := by omega
        rw [if_pos hlim]
        clear hlim
        go_enter Try.func11, Try.ntmps11
        go_wp2_with fail
        refine (at_ok B w pb mb last L own k 0 x H.out h1 h2 HF.out (Or.inl rfl)).mono ?_
        rintro e w1 ⟨rfl, rfl⟩
        go_wp2_with fail
        go_ret
        exact ⟨rfl, HA.out⟩
      · have q1 : decide ((4194304 : Int) - (x.b0.length : Int) < (bn : Int)) = false := by simp only [decide_eq_false_iff_not]; omega
        rw [if_neg hlim]
        have hlen : (x.b0 ++ bs).length = x.b0.length + bn := by rw [List.length_append, hbl]
        have hle : (x.b0 ++ bs).length ≤ 4194304 := by omega
        have HLE := Lib.hid hle
        have HLEN := Lib.hid hlen
        clear hlim hle hlen
        go_enter Try.func11, Try.ntmps11
        go_wp2_with fail
        refine (at_ok B w pb mb last L own k 0 x H.out h1 h2 HF.out (Or.inl rfl)).mono ?_
        rintro e w1 ⟨rfl, rfl⟩
        go_wp2_with (at_builtin; refine wpList_append_src _ rfl (.tmp 32) (.tmp 33) 29 rfl B 5 i0 _ 1 1 Try.underlying29 hi hz0 hz1 hz2 rfl (by decide) x.a0 x.b0.length x.c0 x.b0 rfl HX.out.r0 bo bn bc bs rfl HBS.out HO.out ?_ ?_ hB ?_)
        · have := HLE.out; have := HLEN.out; unfold maxLen; omega
        · have := HLE.out; have := HLEN.out; omega
        intro ro rc w4 hr4 hf4 hlies
        have hr4' : Row B w4 5 1 ro (x.b0 ++ bs).length rc (x.b0 ++ bs) := by rw [HLEN.out]; exact hr4
        obtain ⟨p1, p2⟩ := H.out.put0 HF.out hf4 hr4' (HX.out.y0.append HY.out) HLE.out (fun i hi => (hlies i hi).elim Or.inl (fun e => Or.inr (by omega)))
        rw [HLEN.out] at p1 p2
        have HP : Hid (Aft B pb mb last (setA (L.map Ln.ab) k 0 (x.b0 ++ bs)) own w (w4.setCell ⟨x.lb, 0, none⟩ (.slice ro (x.b0.length + bn) rc))) := ⟨_, ⟨_, set_ab _ _ _ _ _ _, p1⟩, p2, mark_old _ _ _⟩
        have hnr : ¬ rowOf x.a0 x.lb := fun hk => row_ne HX.out.r0 HX.out.blk (by decide) _ hk rfl
        have e4 : w4.cell? ⟨x.lb, 0, none⟩ = some (.slice x.a0 x.b0.length x.c0) := (hf4.cell (p := ⟨x.lb, 0, none⟩) HX.out.blk.lt hnr).trans d0
        have f4 : w4.frozen? ⟨x.lb, 0, none⟩ = false := (HX.out.blk.fr hf4 hnr).frozen 0
        clear hr4 hr4' hf4 hlies p1 p2 hnr d0 d1
        go_wp2_with fail
        go_ret
        exact ⟨rfl, HP.out⟩
    · rw [if_neg h0]
      by_cases h01 : way = 1
      · subst h01
        rw [if_pos rfl]
        by_cases hlim : 4194304 < x.b1.length + bn
        · have q1 : (4194304 : Int) - (x.b1.length : Int) < (bn : Int) := by omega
          rw [if_pos hlim]
          clear hlim h0
          go_enter Try.func11, Try.ntmps11
          go_wp2_with fail
          refine (at_ok B w pb mb last L own k 1 x H.out h1 h2 HF.out (Or.inr rfl)).mono ?_
          rintro e w1 ⟨rfl, rfl⟩
          go_wp2_with fail
          go_ret
          exact ⟨rfl, HA.out⟩
        · have q1 : decide ((4194304 : Int) - (x.b1.length : Int) < (bn : Int)) = false := by simp only [decide_eq_false_iff_not]; omega
          rw [if_neg hlim]
          have hlen : (x.b1 ++ bs).length = x.b1.length + bn := by rw [List.length_append, hbl]
          have hle : (x.b1 ++ bs).length ≤ 4194304 := by omega
          have HLE := Lib.hid hle
          have HLEN := Lib.hid hlen
          clear hlim hle hlen h0
          go_enter Try.func11, Try.ntmps11
          go_wp2_with fail
          refine (at_ok B w pb mb last L own k 1 x H.out h1 h2 HF.out (Or.inr rfl)).mono ?_
          rintro e w1 ⟨rfl, rfl⟩
          go_wp2_with (at_builtin; refine wpList_append_src _ rfl (.tmp 32) (.tmp 33) 29 rfl B 5 i0 _ 1 1 Try.underlying29 hi hz0 hz1 hz2 rfl (by decide) x.a1 x.b1.length x.c1 x.b1 rfl HX.out.r1 bo bn bc bs rfl HBS.out HO.out ?_ ?_ hB ?_)
          · have := HLE.out; have := HLEN.out; unfold maxLen; omega
          · have := HLE.out; have := HLEN.out; omega
          intro ro rc w4 hr4 hf4 hlies
          have hr4' : Row B w4 5 1 ro (x.b1 ++ bs).length rc (x.b1 ++ bs) := by rw [HLEN.out]; exact hr4
          obtain ⟨p1, p2⟩ := H.out.put1 HF.out hf4 hr4' (HX.out.y1.append HY.out) HLE.out (fun i hi => (hlies i hi).elim Or.inl (fun e => Or.inr (by omega)))
          rw [HLEN.out] at p1 p2
          have HP : Hid (Aft B pb mb last (setA (L.map Ln.ab) k 1 (x.b1 ++ bs)) own w (w4.setCell ⟨x.lb, 1, none⟩ (.slice ro (x.b1.length + bn) rc))) := ⟨_, ⟨_, set_ab _ _ _ _ _ _, p1⟩, p2, mark_old _ _ _⟩
          have hnr : ¬ rowOf x.a1 x.lb := fun hk => row_ne HX.out.r1 HX.out.blk (by decide) _ hk rfl
          have e4 : w4.cell? ⟨x.lb, 1, none⟩ = some (.slice x.a1 x.b1.length x.c1) := (hf4.cell (p := ⟨x.lb, 1, none⟩) HX.out.blk.lt hnr).trans d1
          have f4 : w4.frozen? ⟨x.lb, 1, none⟩ = false := (HX.out.blk.fr hf4 hnr).frozen 1
          clear hr4 hr4' hf4 hlies p1 p2 hnr d0 d1
          go_wp2_with fail
          go_ret
          exact ⟨rfl, HP.out⟩
      · rw [if_neg h01]
        have H0 := Lib.hid h0
        have H01 := Lib.hid h01
        clear h0 h01
        go_enter Try.func11, Try.ntmps11
        go_wp2_with fail
        refine (at_bad B w pb mb last L own k way x H.out h1 h2 HF.out H0.out H01.out).mono ?_
        rintro e w1 ⟨rfl, rfl⟩
        go_wp2_with fail
        go_ret
        exact ⟨rfl, HA.out⟩
end Go.Proofs.Ytmgdbilmfialkaa
