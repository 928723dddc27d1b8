/- Contracts of the document's Waits and Send, by walks. -/
import Derived.Test.YtmgdbilmfialkaaW12
namespace Go.Proofs.Ytmgdbilmfialkaa
open Go.RowKit Go.WideShapes Go.Maps

theorem place_some {M : List Ln} {k : Int} {i : Nat} (h : M.findIdx? (fun y => decide (y.k = k)) = some i) : placeV M k = (i : Int) := by unfold placeV; rw [h]
theorem rwaits_any (B : Nat) (w : World) (rb : Nat) (last : Int) (A : List Ab) (own : Own) (k way : Int) (h : RefA B w rb last A own) :
    Calls Try.prog 35 #[.pointer (some ⟨rb, 0, none⟩), .int .i64 k, .int .i64 way] w fun e w' => e = .returned (.int .i64 (waitsR A k way : Int)) ∧ w = w' := by
  obtain ⟨M, lo, lc, rfl, h⟩ := h
  have H := Lib.hid h
  cases hf : findL M k with
  | none =>
    rw [waits_none hf]
    have HP := Lib.hid (place_none hf)
    clear h hf
    go_enter Try.func35, Try.ntmps35
    go_wp2_with fail
    refine (place_any B w rb last M lo lc own k H.out).mono ?_
    rw [HP.out]
    rintro e w1 ⟨rfl, rfl⟩
    go_wp2_with fail
    go_ret
    exact ⟨rfl, rfl⟩
  | some x =>
    rw [waits_some hf]
    obtain ⟨i, hi, hxk, hidx⟩ := find_idx hf
    have HP := Lib.hid (place_some hidx)
    have hil : i < M.length := (List.getElem?_eq_some_iff.1 hi).1
    obtain ⟨g, rfl⟩ := h.row.form (by omega)
    obtain ⟨_, d1, d2⟩ := row3_cells h.row hi
    have c1 := h.c1
    have hlen := h.len
    have i1 : (0 : Int) ≤ (i : Int) := by omega
    have i2 : (i : Int) < (M.length : Int) := by omega
    have i3 : ¬ (i : Int) < 0 := by omega
    clear h hf hi hidx hxk
    by_cases h0 : way = 0
    · subst h0
      go_enter Try.func35, Try.ntmps35
      go_wp2_with fail
      refine (place_any B w rb last M _ lc own k H.out).mono ?_
      rw [HP.out]
      rintro e w1 ⟨rfl, rfl⟩
      go_wp2_with fail
      go_ret
      exact ⟨rfl, rfl⟩
    · by_cases h01 : way = 1
      · subst h01
        go_enter Try.func35, Try.ntmps35
        go_wp2_with fail
        refine (place_any B w rb last M _ lc own k H.out).mono ?_
        rw [HP.out]
        rintro e w1 ⟨rfl, rfl⟩
        go_wp2_with fail
        go_ret
        exact ⟨rfl, rfl⟩
      · rw [if_neg h0, if_neg h01]
        have e0 : (way != 0) = true := by simpa using h0
        have e1 : (way != 1) = true := by simpa using h01
        clear h0 h01
        go_enter Try.func35, Try.ntmps35
        go_wp2_with fail
        refine (place_any B w rb last M _ lc own k H.out).mono ?_
        rw [HP.out]
        rintro e w1 ⟨rfl, rfl⟩
        go_wp2_with fail
        go_ret
        exact ⟨rfl, rfl⟩

set_option maxRecDepth 100000 in
set_option maxHeartbeats 4000000 in
theorem rsend_ok0 (B : Nat) (w : World) (rb : Nat) (last : Int) (M : List Ln) (g lc : Nat) (own : Own) (k : Int) (i : Nat) (x : Ln) (bo : Option Addr) (bn bc : Nat) (bs : List Value) (h : RefAt B w rb last M (some ⟨g, 0, none⟩) lc own) (hB : B ≤ w.heap.size) (hi : M[i]? = some x) (hxk : x.k = k) (hpl : placeV M k = (i : Int))
    (hb : Src w 1 bo bn bs) (hy : AllB bs) (hle : x.b0.length + bn ≤ 4194304) :
    Calls Try.prog 30 #[.pointer (some ⟨rb, 0, none⟩), .int .i64 k, .int .i64 0, .slice bo bn bc] w fun e w' => e = .returned (.int .i64 0) ∧ AftR B rb last (setA (M.map Ln.ab) k 0 (x.b0 ++ bs)) own w w' := by
  have H := Lib.hid h
  have HPL := Lib.hid hpl
  have hil : i < M.length := (List.getElem?_eq_some_iff.1 hi).1
  obtain ⟨_, d1, d2⟩ := row3_cells h.row hi
  have c1 := h.c1
  have hlen := h.len
  have i1 : (0 : Int) ≤ (i : Int) := by omega
  have i2 : (i : Int) < (M.length : Int) := by omega
  have i3 : ¬ (i : Int) < 0 := by omega
  have hX := h.each x (List.mem_of_getElem? hi)
  have HX := Lib.hid hX
  have l0 := hX.l0
  have q1 : decide ((4194304 : Int) - (x.b0.length : Int) < (bn : Int)) = false := by simp only [decide_eq_false_iff_not]; omega
  have hbl := hb.len1
  have hlen2 : (x.b0 ++ bs).length = x.b0.length + bn := by rw [List.length_append, hbl]
  have HLEN := Lib.hid hlen2
  have HLE := Lib.hid hle
  have HI := Lib.hid hi
  have HK := Lib.hid hxk
  have HBS : Hid (Src w.drew 1 bo bn bs) := hb.fr ((Fr.refl none0 w).drew) (fun _ _ _ h => h)
  have HO := Lib.hid hy.one
  have HY := Lib.hid hy
  obtain ⟨i0, hi0, hz0, hz1, hz2⟩ := info_parts inf5
  have hsz : w.drew.heap.size = w.heap.size := rfl
  have frg := h.row.frozen (i * 3 + 1)
  have hgne : Hid (∀ k, rowOf x.a0 k → ¬ k = g ∧ ¬ k = rb) := fun q hq => by
    refine ⟨fun e => ?_, row_ne hX.r0 h.blk (by decide) q hq⟩
    subst e
    have h1 := hX.o0 q hq
    rw [h.orow q ⟨_, rfl, rfl⟩] at h1
    injection h1 with h1 _
    have := (h.rng x (List.mem_of_getElem? hi)).1
    omega
  have hgl : g < w.heap.size := h.row.lt
  have hrl := h.blk.lt
  clear h hpl hX hbl hlen2 hle hi hxk hb hy
  go_enter Try.func30, Try.ntmps30
  go_wp2_with fail
  refine (place_any B w rb last M _ lc own k H.out).mono ?_
  rw [HPL.out]
  rintro e w1 ⟨rfl, rfl⟩
  go_wp2_with fail
  go_region_law (
    (refine step_append_src _ rfl (.tmp 51) (.tmp 52) 29 rfl B 5 i0 _ 1 1 Try.underlying29 hi0 hz0 hz1 hz2 rfl (by decide) x.a0 x.b0.length x.c0 x.b0 rfl ?_ bo bn bc bs rfl HBS.out HO.out ?_ ?_ hB ?_
     · exact HX.out.r0.drew
     · have := HLE.out; unfold maxLen; omega
     · have := HLE.out; omega
     intro ro rc w4 hr4 hf4 hl4
     have hf4' : Fr (rowOf x.a0) w w4 := ((Fr.refl (rowOf x.a0) w).drew).step hf4
     have hr4' : Row B w4 5 1 ro (x.b0 ++ bs).length rc (x.b0 ++ bs) := by rw [HLEN.out]; exact hr4
     obtain ⟨p1, p2⟩ := H.out.put0 HI.out HK.out hf4' hr4' (HX.out.y0.append HY.out) (by rw [HLEN.out]; exact HLE.out) (fun i hi => (hl4 i hi).elim Or.inl (fun e => Or.inr (by rw [hsz] at e; omega)))
     rw [HLEN.out] at p1 p2
     have HP : Hid (AftR B rb last (setA (M.map Ln.ab) k 0 (x.b0 ++ bs)) own w (w4.setCell ⟨g, i * 3 + 1, none⟩ (.slice ro (x.b0.length + bn) rc))) := ⟨_, ⟨_, _, _, set_ab _ _ _ _ _ _, p1⟩, p2, mark_old _ _ _⟩
     have d1' : w4.cell? ⟨g, i * 3 + 1, none⟩ = some (.slice x.a0 x.b0.length x.c0) := (hf4'.cell (p := ⟨g, _, none⟩) hgl (fun e => (hgne.out g e).1 rfl)).trans d1
     have c1' : w4.cell? ⟨rb, 1, none⟩ = some (.slice (some ⟨g, 0, none⟩) M.length lc) := (hf4'.cell (p := ⟨rb, _, none⟩) hrl (fun e => (hgne.out rb e).2 rfl)).trans c1
     have f4 : w4.frozen? ⟨g, i * 3 + 1, none⟩ = false := (H.out.row.fr hf4' (fun q hq hq2 => by obtain ⟨a, ha, rfl⟩ := hq; injection ha with ha; subst ha; exact (hgne.out _ hq2).1 rfl)).frozen _
     clear hr4 hr4' hf4 hf4' hl4 p1 p2))
  all_goals
    go_wp2_with fail
    go_ret
    exact ⟨rfl, HP.out⟩

set_option maxRecDepth 100000 in
set_option maxHeartbeats 4000000 in
theorem rsend_ok1 (B : Nat) (w : World) (rb : Nat) (last : Int) (M : List Ln) (g lc : Nat) (own : Own) (k : Int) (i : Nat) (x : Ln) (bo : Option Addr) (bn bc : Nat) (bs : List Value) (h : RefAt B w rb last M (some ⟨g, 0, none⟩) lc own) (hB : B ≤ w.heap.size) (hi : M[i]? = some x) (hxk : x.k = k) (hpl : placeV M k = (i : Int))
    (hb : Src w 1 bo bn bs) (hy : AllB bs) (hle : x.b1.length + bn ≤ 4194304) :
    Calls Try.prog 30 #[.pointer (some ⟨rb, 0, none⟩), .int .i64 k, .int .i64 1, .slice bo bn bc] w fun e w' => e = .returned (.int .i64 0) ∧ AftR B rb last (setA (M.map Ln.ab) k 1 (x.b1 ++ bs)) own w w' := by
  have H := Lib.hid h
  have HPL := Lib.hid hpl
  have hil : i < M.length := (List.getElem?_eq_some_iff.1 hi).1
  obtain ⟨_, d1, d2⟩ := row3_cells h.row hi
  have c1 := h.c1
  have hlen := h.len
  have i1 : (0 : Int) ≤ (i : Int) := by omega
  have i2 : (i : Int) < (M.length : Int) := by omega
  have i3 : ¬ (i : Int) < 0 := by omega
  have hX := h.each x (List.mem_of_getElem? hi)
  have HX := Lib.hid hX
  have l1 := hX.l1
  have q1 : decide ((4194304 : Int) - (x.b1.length : Int) < (bn : Int)) = false := by simp only [decide_eq_false_iff_not]; omega
  have hbl := hb.len1
  have hlen2 : (x.b1 ++ bs).length = x.b1.length + bn := by rw [List.length_append, hbl]
  have HLEN := Lib.hid hlen2
  have HLE := Lib.hid hle
  have HI := Lib.hid hi
  have HK := Lib.hid hxk
  have HBS : Hid (Src w.drew 1 bo bn bs) := hb.fr ((Fr.refl none0 w).drew) (fun _ _ _ h => h)
  have HO := Lib.hid hy.one
  have HY := Lib.hid hy
  obtain ⟨i0, hi0, hz0, hz1, hz2⟩ := info_parts inf5
  have hsz : w.drew.heap.size = w.heap.size := rfl
  have frg := h.row.frozen (i * 3 + 2)
  have hgne : Hid (∀ k, rowOf x.a1 k → ¬ k = g ∧ ¬ k = rb) := fun q hq => by
    refine ⟨fun e => ?_, row_ne hX.r1 h.blk (by decide) q hq⟩
    subst e
    have h1 := hX.o1 q hq
    rw [h.orow q ⟨_, rfl, rfl⟩] at h1
    injection h1 with h1 _
    have := (h.rng x (List.mem_of_getElem? hi)).1
    omega
  have hgl : g < w.heap.size := h.row.lt
  have hrl := h.blk.lt
  clear h hpl hX hbl hlen2 hle hi hxk hb hy
  go_enter Try.func30, Try.ntmps30
  go_wp2_with fail
  refine (place_any B w rb last M _ lc own k H.out).mono ?_
  rw [HPL.out]
  rintro e w1 ⟨rfl, rfl⟩
  go_wp2_with fail
  go_region_law (
    (refine step_append_src _ rfl (.tmp 51) (.tmp 52) 29 rfl B 5 i0 _ 1 1 Try.underlying29 hi0 hz0 hz1 hz2 rfl (by decide) x.a1 x.b1.length x.c1 x.b1 rfl ?_ bo bn bc bs rfl HBS.out HO.out ?_ ?_ hB ?_
     · exact HX.out.r1.drew
     · have := HLE.out; unfold maxLen; omega
     · have := HLE.out; omega
     intro ro rc w4 hr4 hf4 hl4
     have hf4' : Fr (rowOf x.a1) w w4 := ((Fr.refl (rowOf x.a1) w).drew).step hf4
     have hr4' : Row B w4 5 1 ro (x.b1 ++ bs).length rc (x.b1 ++ bs) := by rw [HLEN.out]; exact hr4
     obtain ⟨p1, p2⟩ := H.out.put1 HI.out HK.out hf4' hr4' (HX.out.y1.append HY.out) (by rw [HLEN.out]; exact HLE.out) (fun i hi => (hl4 i hi).elim Or.inl (fun e => Or.inr (by rw [hsz] at e; omega)))
     rw [HLEN.out] at p1 p2
     have HP : Hid (AftR B rb last (setA (M.map Ln.ab) k 1 (x.b1 ++ bs)) own w (w4.setCell ⟨g, i * 3 + 2, none⟩ (.slice ro (x.b1.length + bn) rc))) := ⟨_, ⟨_, _, _, set_ab _ _ _ _ _ _, p1⟩, p2, mark_old _ _ _⟩
     have d1' : w4.cell? ⟨g, i * 3 + 2, none⟩ = some (.slice x.a1 x.b1.length x.c1) := (hf4'.cell (p := ⟨g, _, none⟩) hgl (fun e => (hgne.out g e).1 rfl)).trans d2
     have c1' : w4.cell? ⟨rb, 1, none⟩ = some (.slice (some ⟨g, 0, none⟩) M.length lc) := (hf4'.cell (p := ⟨rb, _, none⟩) hrl (fun e => (hgne.out rb e).2 rfl)).trans c1
     have f4 : w4.frozen? ⟨g, i * 3 + 2, none⟩ = false := (H.out.row.fr hf4' (fun q hq hq2 => by obtain ⟨a, ha, rfl⟩ := hq; injection ha with ha; subst ha; exact (hgne.out _ hq2).1 rfl)).frozen _
     clear hr4 hr4' hf4 hf4' hl4 p1 p2))
  all_goals
    go_wp2_with fail
    go_ret
    exact ⟨rfl, HP.out⟩

theorem rsend_any (B : Nat) (w : World) (rb : Nat) (last : Int) (A : List Ab) (own : Own) (k way : Int) (bo : Option Addr) (bn bc : Nat) (bs : List Value) (h : RefA B w rb last A own) (hB : B ≤ w.heap.size) (hb : Src w 1 bo bn bs) (hy : AllB bs) :
    Calls Try.prog 30 #[.pointer (some ⟨rb, 0, none⟩), .int .i64 k, .int .i64 way, .slice bo bn bc] w fun e w' => e = .returned (.int .i64 (sendR A k way bs).1) ∧ AftR B rb last (sendR A k way bs).2 own w w' := by
  have HA : Hid (AftR B rb last A own w w) := h.aft (Below.refl _ _)
  obtain ⟨M, lo, lc, rfl, h⟩ := h
  have H := Lib.hid h
  have hbl := hb.len1
  cases hf : findL M k with
  | none =>
    rw [send_none hf]
    have HP := Lib.hid (place_none hf)
    clear h hf hb
    go_enter Try.func30, Try.ntmps30
    go_wp2_with fail
    refine (place_any B w rb last M lo lc own k H.out).mono ?_
    rw [HP.out]
    rintro e w1 ⟨rfl, rfl⟩
    go_wp2_with fail
    go_ret
    exact ⟨rfl, HA.out⟩
  | some x =>
    rw [send_some hf, hbl]
    obtain ⟨i, hi, hxk, hidx⟩ := find_idx hf
    have hpl := place_some hidx
    have hil : i < M.length := (List.getElem?_eq_some_iff.1 hi).1
    obtain ⟨g, rfl⟩ := h.row.form (by omega)
    obtain ⟨_, d1, d2⟩ := row3_cells h.row hi
    have c1 := h.c1
    have hlen := h.len
    have i1 : (0 : Int) ≤ (i : Int) := by omega
    have i2 : (i : Int) < (M.length : Int) := by omega
    have i3 : ¬ (i : Int) < 0 := by omega
    have l0 := (h.each x (List.mem_of_getElem? hi)).l0
    have l1 := (h.each x (List.mem_of_getElem? hi)).l1
    by_cases h0 : way = 0
    · subst h0
      rw [if_pos rfl]
      by_cases hlim : 4194304 < x.b0.length + bn
      · rw [if_pos hlim]
        have q1 : decide ((4194304 : Int) - (x.b0.length : Int) < (bn : Int)) = true := by simp only [decide_eq_true_eq]; omega
        have HPL := Lib.hid hpl
        clear h hf hb hi hxk hidx hpl hlim
        go_enter Try.func30, Try.ntmps30
        go_wp2_with fail
        refine (place_any B w rb last M _ lc own k H.out).mono ?_
        rw [HPL.out]
        rintro e w1 ⟨rfl, rfl⟩
        go_wp2_with fail
        go_ret
        exact ⟨rfl, HA.out⟩
      · rw [if_neg hlim]
        exact rsend_ok0 B w rb last M g lc own k i x bo bn bc bs h hB hi hxk hpl hb hy (by omega)
    · rw [if_neg h0]
      by_cases h01 : way = 1
      · subst h01
        rw [if_pos rfl]
        by_cases hlim : 4194304 < x.b1.length + bn
        · rw [if_pos hlim]
          have q1 : decide ((4194304 : Int) - (x.b1.length : Int) < (bn : Int)) = true := by simp only [decide_eq_true_eq]; omega
          have HPL := Lib.hid hpl
          clear h hf hb hi hxk hidx hpl hlim h0
          go_enter Try.func30, Try.ntmps30
          go_wp2_with fail
          refine (place_any B w rb last M _ lc own k H.out).mono ?_
          rw [HPL.out]
          rintro e w1 ⟨rfl, rfl⟩
          go_wp2_with fail
          go_ret
          exact ⟨rfl, HA.out⟩
        · rw [if_neg hlim]
          exact rsend_ok1 B w rb last M g lc own k i x bo bn bc bs h hB hi hxk hpl hb hy (by omega)
      · rw [if_neg h01]
        have e0 : (way != 0) = true := by simpa using h0
        have e1 : (way != 1) = true := by simpa using h01
        have HPL := Lib.hid hpl
        clear h hf hb hi hxk hidx hpl h0 h01
        go_enter Try.func30, Try.ntmps30
        go_wp2_with fail
        refine (place_any B w rb last M _ lc own k H.out).mono ?_
        rw [HPL.out]
        rintro e w1 ⟨rfl, rfl⟩
        go_wp2_with fail
        go_ret
        exact ⟨rfl, HA.out⟩
end Go.Proofs.Ytmgdbilmfialkaa
