/- NetApart, by a walk over the contracts. -/
import Derived.Test.YtmgdbilmfialkaaW20
namespace Go.Proofs.Ytmgdbilmfialkaa
open Go.RowKit Go.WideShapes Go.Maps
attribute [local go_sem ↓] Go.wp_at_zero Go.wp_at_succ

theorem find_setA (A : List Ab) (k : Int) (j : Nat) (b : List Value) (z : Int) : findA (setA A k j b) z = (findA A z).map fun x => if x.k = k then x.set j b else x := by
  unfold findA setA
  rw [List.find?_map]
  congr 1
  congr 1
  funext x
  simp only [Function.comp]
  split
  · rw [Ab.set_k]
  · rfl
theorem find_key {A : List Ab} {k : Int} {x : Ab} (h : findA A k = some x) : x.k = k := by
  unfold findA at h
  have := List.find?_some h
  simpa using this
theorem send_cases (A : List Ab) (k way : Int) (bs : List Value) : (∃ e : Int, e ≠ 0 ∧ sendR A k way bs = (e, A)) ∨ ∃ (J : Nat) (y : Ab), J < 2 ∧ way = (J : Int) ∧ findA A k = some y ∧ sendR A k way bs = (0, setA A k J (y.b J ++ bs)) := by
  unfold sendR
  cases hf : findA A k with
  | none => exact Or.inl ⟨7, by decide, rfl⟩
  | some y =>
    dsimp only
    by_cases h0 : way = 0
    · rw [if_pos h0]
      by_cases hl : 4194304 < y.b0.length + bs.length
      · rw [if_pos hl]; exact Or.inl ⟨3, by decide, rfl⟩
      · rw [if_neg hl]; exact Or.inr ⟨0, y, by omega, h0, rfl, rfl⟩
    · rw [if_neg h0]
      by_cases h1 : way = 1
      · rw [if_pos h1]
        by_cases hl : 4194304 < y.b1.length + bs.length
        · rw [if_pos hl]; exact Or.inl ⟨3, by decide, rfl⟩
        · rw [if_neg hl]; exact Or.inr ⟨1, y, by omega, h1, rfl, rfl⟩
      · rw [if_neg h1]; exact Or.inl ⟨2, by decide, rfl⟩
theorem waits_b {A : List Ab} {z : Int} {x : Ab} (h : findA A z = some x) {j : Nat} (hj : j < 2) : waitsR A z j = (x.b j).length := by
  unfold waitsR Ab.b
  rw [h]
  rcases (show j = 0 ∨ j = 1 by omega) with rfl | rfl <;> rfl
theorem apart_law (A : List Ab) (k way z : Int) (bs : List Value) (x : Ab) (hz : findA A z = some x) (j : Nat) (hj : j < 2) :
    waitsR (sendR A k way bs).2 z j = waitsR A z j + (if (sendR A k way bs).1 = 0 ∧ z = k ∧ (j : Int) = way then bs.length else 0) := by
  rcases send_cases A k way bs with ⟨e, he, h⟩ | ⟨J, y, hJ, hw, hf, h⟩
  · rw [h, if_neg (fun q => he q.1)]; rfl
  · rw [h]
    have hxz := find_key hz
    have key : findA (setA A k J (y.b J ++ bs)) z = some (if z = k then x.set J (y.b J ++ bs) else x) := by rw [find_setA, hz, Option.map_some, hxz]
    rw [waits_b key hj, waits_b hz hj]
    by_cases e : z = k
    · have hyx : y = x := by rw [← e, hz] at hf; injection hf with hf; exact hf.symm
      rw [if_pos e, hyx]
      by_cases hJj : j = J
      · subst hJj
        rw [if_pos ⟨rfl, e, hw.symm⟩]
        rcases (show j = 0 ∨ j = 1 by omega) with rfl | rfl <;> simp [Ab.set, Ab.b]
      · rw [if_neg (fun q => hJj (by have := q.2.2; omega))]
        rcases (show j = 0 ∨ j = 1 by omega) with rfl | rfl <;> rcases (show J = 0 ∨ J = 1 by omega) with rfl | rfl <;> first | omega | simp [Ab.set, Ab.b]
    · rw [if_neg e, if_neg (fun q => e q.2.1)]; rfl
theorem NetA.waits_le {B : Nat} {w : World} {pb mb : Nat} {last : Int} {A : List Ab} {own : Own} (h : NetA B w pb mb last A own) (k way : Int) : waitsR A k way ≤ 4194304 := by
  obtain ⟨L, rfl, h⟩ := h
  cases hf : findL L k with
  | none => rw [waits_none hf]; omega
  | some x =>
    rw [waits_some hf]
    have hX := h.each x (findL_mem hf).1
    have l0 := hX.l0
    have l1 := hX.l1
    split
    · exact l0
    · split <;> omega
theorem find_at {A : List Ab} (hasc : A.Pairwise fun x y => x.k < y.k) {i : Nat} {x : Ab} (h : A[i]? = some x) : findA A x.k = some x := by
  unfold findA
  have hm := List.mem_of_getElem? h
  cases hf : A.find? (fun y => decide (y.k = x.k)) with
  | none => have := List.find?_eq_none.1 hf x hm; simp at this
  | some y =>
    have hk : y.k = x.k := by simpa using List.find?_some hf
    have hym := List.mem_of_find?_eq_some hf
    obtain ⟨i', hi', rfl⟩ := List.getElem_of_mem hym
    obtain ⟨hi, rfl⟩ := List.getElem?_eq_some_iff.1 h
    have hp := List.pairwise_iff_getElem.1 hasc
    rcases Nat.lt_trichotomy i' i with h1 | h1 | h1
    · have := hp i' i hi' hi h1; omega
    · subst h1; rfl
    · have := hp i i' hi hi' h1; omega

theorem inf52 : (Try.prog.info? 52).map (fun i => (i.zero, i.size, i.bytes)) = some (some (.agg #[.int .i64 0, .int .i64 0]), 2, 16) := by kernel_rfl
/-- What waited before. -/
def was2 (A : List Ab) (x : Ab) : List Value := [.int .i64 (waitsR A x.k 0 : Int), .int .i64 (waitsR A x.k 1 : Int)]
def wasF (A : List Ab) (S : List Ab) : List Value := S.flatMap (was2 A)

set_option maxRecDepth 100000 in
set_option maxHeartbeats 8000000 in
theorem NetApart_walk (ao : Option Addr) (n c : Nat) (F : Nat → ActV) (k way : Int) (bo : Option Addr) (bn bc : Nat) (xs : List Value) (w : World) (hF : Acts w ao n F) (_ : n ≤ 9223372036854775807) (h1 : -9223372036854775808 ≤ k) (h2 : k ≤ 9223372036854775807) (_ : -9223372036854775808 ≤ way) (_ : way ≤ 9223372036854775807)
    (hbs : Src w 1 bo bn xs ∧ AllB xs ∧ (bo = none → bn = 0 ∧ bc = 0) ∧ True) (hbn : bn ≤ 9223372036854775807) :
    Calls Try.prog 7 #[.slice ao n c, .int .i64 k, .int .i64 way, .slice bo bn bc] w fun e w' => e = .returned (.bool true) ∧ Below w.heap.size w w' := by
  obtain ⟨hs0, hy0, _, _⟩ := hbs
  have HS0 := Lib.hid hs0
  have HY := Lib.hid hy0
  have hxl := hs0.len1
  clear hs0 hy0
  go_enter Try.func7, Try.ntmps7
  go_wp2_with fail
  refine (played_any w ao n c F hF).mono ?_
  rintro e w1 ⟨pb, mb, rb, last, A, own, rfl, hh, hl, hb⟩
  have HE1 : Hid (Env w.heap.size w1 pb mb last A own) := hh.env
  have HB1 := Lib.hid hb
  have hlen := hh.env.len
  obtain ⟨hasc, hrng⟩ := hh.env.asc
  have HASC := Lib.hid hasc
  have HRNG := Lib.hid hrng
  have HS1 : Hid (Src w1 1 bo bn xs) := HS0.out.below hb (fun _ _ h => h)
  clear hb hh hF hasc hrng
  go_wp2_with fail
  refine (links_any w.heap.size w1 pb mb last A own HE1.out.net).mono ?_
  rintro e w2 ⟨ro, rc, rfl, hr2, hb2⟩
  have HR2 := Lib.hid hr2
  have HE2 := Lib.hid (HE1.out.below hb2)
  have HB2 : Hid (Below w.heap.size w w2) := HB1.out.trans (hb2.mono HB1.out.size)
  have HS2 : Hid (Src w2 1 bo bn xs) := HS1.out.below hb2 (fun _ _ h => h)
  have HOR : Hid (Out own ro) := Out.new HE1.out (fun j hj => (hr2.tag j (row_lt hr2 j hj) hj).1)
  obtain ⟨i0, hi0, hz0, hz1, hz2⟩ := info_parts inf52
  clear hr2 hb2
  go_wp2_with fail
  go_loopw [12, 14] (fun s12 s14 wr => ∃ (i : Nat) (qo : Option Addr) (qc : Nat), i ≤ A.length ∧ s14 = .int .i64 i ∧ s12 = .slice qo i qc ∧ Hid (Row w2.heap.size wr 52 2 qo i qc (wasF A (A.take i))) ∧ Hid (Below w2.heap.size w2 wr)) (fun _ s14 _ => A.length - (intOf s14).toNat)
  case atStart => exact ⟨0, none, 0, Nat.zero_le _, rfl, rfl, Row.nil _ _ _ _, Below.refl _ _⟩
  case round =>
    obtain ⟨i, qo, qc, hi1, rfl, rfl, hrow, hbl⟩ := hrel
    by_cases hlt : i < A.length
    · have hA : A[i]? = some A[i] := List.getElem?_eq_getElem hlt
      obtain ⟨g, rfl⟩ := HR2.out.form (by omega)
      have hc : w2.cell? ⟨g, i, none⟩ = some (.int .i64 A[i].k) := by
        have hl := HR2.out.len
        refine (HR2.out.cell (j := i) (by omega)).trans ?_
        unfold ints linksR
        rw [List.getElem?_map, List.getElem?_map, hA]; rfl
      have d0 : wr.cell? ⟨g, i, none⟩ = some (.int .i64 A[i].k) := (hbl.out.cell (p := ⟨g, i, none⟩) HR2.out.lt).trans hc
      have HTK : Hid (wasF A (A.take i) ++ [.int .i64 (waitsR A A[i].k 0 : Int), .int .i64 (waitsR A A[i].k 1 : Int)] = wasF A (A.take (i + 1))) := by
        show _ = _
        rw [List.take_add_one, hA]; unfold wasF; rw [List.flatMap_append]; rfl
      obtain ⟨r1, r2⟩ := HRNG.out _ (List.mem_of_getElem? hA)
      generalize A[i].k = z at *
      have z1 : -9223372036854775808 ≤ z := by omega
      have z2 : z ≤ 9223372036854775807 := by omega
      obtain ⟨p0, hp0⟩ : ∃ p : Int, (waitsR A z 0 : Int) = p := ⟨_, rfl⟩
      obtain ⟨p1, hp1⟩ : ∃ p : Int, (waitsR A z 1 : Int) = p := ⟨_, rfl⟩
      rw [hp0, hp1] at HTK
      have HP0 := Lib.hid hp0
      have HP1 := Lib.hid hp1
      have i1 : (0 : Int) ≤ (i : Int) := by omega
      have i2 : (i : Int) < (A.length : Int) := by omega
      have HEd : Hid (Env w.heap.size wr.drew pb mb last A own) := (HE2.out.below hbl.out).below (Below.refl _ _).drew
      have hal : Below w2.heap.size wr.drew (wr.drew.alloc (.cells #[.int .i64 p0, .int .i64 p1] 52)) := (Below.refl w2.heap.size wr.drew).alloc hbl.out.size _
      have HB4 : Hid (Below w2.heap.size w2 (wr.drew.alloc (.cells #[.int .i64 p0, .int .i64 p1] 52))) := hbl.out.drew.trans hal
      have HR4 : Hid (Row w2.heap.size (wr.drew.alloc (.cells #[.int .i64 p0, .int .i64 p1] 52)) 52 2 qo i qc (wasF A (A.take i))) := hrow.out.fr (((Fr.refl none0 wr).drew).alloc _) (fun _ _ h => h)
      have HS4 : Hid (Src (wr.drew.alloc (.cells #[.int .i64 p0, .int .i64 p1] 52)) 2 (some ⟨wr.heap.size, 0, none⟩) 1 [.int .i64 p0, .int .i64 p1]) := by
        refine ⟨rfl, fun j u hj => ⟨wr.heap.size, 0, rfl, by simp, ?_⟩⟩
        rw [Nat.zero_add]
        refine ((Blk.new wr.drew 52 #[.int .i64 p0, .int .i64 p1]).cell j).trans ?_
        simpa using hj
      have HSZ : Hid (w2.heap.size ≤ (wr.drew.alloc (.cells #[.int .i64 p0, .int .i64 p1] 52)).heap.size) := HB4.out.size
      clear hA hc hal hp0 hp1
      go_wp2_with fail
      go_region_held3 (fun w' => w'.cell? ⟨g, i, none⟩ = some (.int .i64 z)) (go_keep) (first
        | (refine step_append_src _ (by rfl) (.tmp 33) (.tmp 47) 51 (by rfl) w2.heap.size 52 i0 _ 2 16 Try.underlying51 hi0 hz0 hz1 hz2 rfl (by decide) qo i qc (wasF A (A.take i)) (by rfl) ?_ (some ⟨wr.heap.size, 0, none⟩) 1 1 [.int .i64 p0, .int .i64 p1] (by rfl) ?_ ?_ ?_ ?_ ?_ ?_
           · exact HR4.out
           · exact HS4.out
           · intro u hu; simp at hu; rcases hu with rfl | rfl <;> rfl
           · unfold maxLen; omega
           · omega
           · exact HSZ.out
           intro lo' lc' w5 hr5 hf5 _
           rw [HTK.out] at hr5
           have HR5 := Lib.hid hr5
           have HB5 : Hid (Below w2.heap.size w2 w5) := ((Fr.of_below (T := none0) HB4.out).rowed HR4.out (Nat.le_refl _) hf5).below (Nat.le_refl _) (fun _ h => h.elim)
           have d5 : w5.cell? ⟨g, i, none⟩ = some (.int .i64 z) := (HB5.out.cell (p := ⟨g, i, none⟩) HR2.out.lt).trans ((hbl.out.cell (p := ⟨g, i, none⟩) HR2.out.lt).symm.trans d0)
           clear hr5 hf5)
        | (go_at_call 13
           refine (waits_any w.heap.size wr.drew pb mb last A own z _ HEd.out.net z1 z2).mono ?_
           first | rw [HP0.out] | rw [HP1.out]
           rintro e w' ⟨rfl, rfl⟩))
      all_goals
        go_wp2_with fail
        go_roundw
        case rel => exact ⟨i + 1, lo', lc', by omega, by go_num, by go_num, HR5.out, HB5.out⟩
        case measure => simp [intOf]; omega
    · have e : i = A.length := by omega
      subst e
      rw [List.take_length] at hrow
      have HE3 := Lib.hid (HE2.out.below hbl.out)
      have HS3 : Hid (Src wr 1 bo bn xs) := HS2.out.below hbl.out (fun _ _ h => h)
      have HR3 : Hid (Row w1.heap.size wr 3 1 ro A.length rc (ints (linksR A))) := HR2.out.fr (Fr.of_below (T := none0) hbl.out) (fun _ _ h => h)
      have HB3 : Hid (Below w.heap.size w wr) := HB2.out.trans (hbl.out.mono HB2.out.size)
      have HOW : Hid (Out own qo) := Out.new HE2.out (fun j hj => (hrow.out.tag j (row_lt hrow.out j hj) hj).1)
      obtain ⟨er, her⟩ : ∃ z : Int, (sendR A k way xs).1 = z := ⟨_, rfl⟩
      obtain ⟨N, hN⟩ : ∃ z, (sendR A k way xs).2 = z := ⟨_, rfl⟩
      have HLAW : Hid (∀ z x, findA A z = some x → ∀ j : Nat, j < 2 → waitsR N z j = waitsR A z j + (if er = 0 ∧ z = k ∧ (j : Int) = way then bn else 0)) := fun z x hz j hj => by
        rw [← her, ← hN, ← hxl]; exact apart_law A k way z xs x hz j hj
      have HER := Lib.hid her
      have HN := Lib.hid hN
      clear her hN hbl
      generalize wr = w3 at *
      go_wp2_with fail
      refine (env_send w.heap.size w3 pb mb last A own k way bo bn bc xs HE3.out h1 h2 HS3.out HY.out hbn).mono ?_
      rw [HER.out, HN.out]
      rintro e w4 ⟨rfl, own4, he4, hf4, hb4, ho4⟩
      have HE4 := Lib.hid he4
      have HB4 : Hid (Below w.heap.size w w4) := HB3.out.trans hb4
      have HR4 : Hid (Row w1.heap.size w4 3 1 ro A.length rc (ints (linksR A))) := HR3.out.step HOR.out hf4
      have HW4 : Hid (Row w2.heap.size w4 52 2 qo A.length qc (wasF A A)) := hrow.out.step HOW.out hf4
      clear he4 hf4 hb4 ho4 hrow
      go_wp2_with fail
      go_loopw [8, 16, 17, 18] (fun _ s16 _ _ wr => ∃ i : Nat, i ≤ A.length ∧ s16 = .int .i64 i ∧ Hid (Below w4.heap.size w4 wr)) (fun _ s16 _ _ _ => A.length - (intOf s16).toNat)
      case atStart => exact ⟨0, Nat.zero_le _, rfl, Below.refl _ _⟩
      case round =>
        obtain ⟨i, hi1, rfl, hb⟩ := hrel
        by_cases hlt2 : i < A.length
        · have hA : A[i]? = some A[i] := List.getElem?_eq_getElem hlt2
          obtain ⟨g, rfl⟩ := HR4.out.form (by omega)
          obtain ⟨g2, rfl⟩ := HW4.out.form (by omega)
          have hc : w4.cell? ⟨g, i, none⟩ = some (.int .i64 A[i].k) := by
            have hl := HR4.out.len
            refine (HR4.out.cell (j := i) (by omega)).trans ?_
            unfold ints linksR
            rw [List.getElem?_map, List.getElem?_map, hA]; rfl
          have hwc : ∀ j : Nat, j < 2 → w4.cell? ⟨g2, i * 2 + j, none⟩ = some (.int .i64 (waitsR A A[i].k (j : Int) : Int)) := fun j hj => by
            refine (HW4.out.cell (j := i * 2 + j) (by omega)).trans ?_
            refine (flat_get (was2 A) 2 (fun _ => rfl) A i j A[i] hA hj).trans ?_
            rcases (show j = 0 ∨ j = 1 by omega) with rfl | rfl <;> rfl
          have HFA := Lib.hid (find_at HASC.out hA)
          obtain ⟨r1, r2⟩ := HRNG.out _ (List.mem_of_getElem? hA)
          have HWC := Lib.hid hwc
          have d0 : wr.cell? ⟨g, i, none⟩ = some (.int .i64 A[i].k) := (hb.out.cell (p := ⟨g, i, none⟩) HR4.out.lt).trans hc
          clear hwc hc
          generalize hx : A[i] = x at *
          obtain ⟨z, hz⟩ : ∃ z, x.k = z := ⟨_, rfl⟩
          rw [hz] at d0 HWC HFA r1 r2
          have z1 : -9223372036854775808 ≤ z := by omega
          have z2 : z ≤ 9223372036854775807 := by omega
          have i1 : (0 : Int) ≤ (i : Int) := by omega
          have i2 : (i : Int) < (A.length : Int) := by omega
          clear hA hx hz
          generalize wr = w5 at *
          go_wp2_with fail
          go_loopw [8, 17, 18] (fun _ s17 _ wr => ∃ j : Nat, j ≤ 2 ∧ s17 = .int .i64 j ∧ Hid (Below w5.heap.size w5 wr)) (fun _ s17 _ _ => 2 - (intOf s17).toNat)
          case atStart => exact ⟨0, Nat.zero_le _, rfl, Below.refl _ _⟩
          case round =>
            obtain ⟨j, hj1, rfl, hb5⟩ := hrel
            have hbq : Below w4.heap.size w4 wr := hb.out.trans (hb5.out.mono hb.out.size)
            by_cases hj2 : j < 2
            · have e0 : wr.cell? ⟨g, i, none⟩ = some (.int .i64 z) := (hb5.out.cell (p := ⟨g, i, none⟩) (Nat.lt_of_lt_of_le HR4.out.lt hb.out.size)).trans d0
              have e1 := (hbq.cell (p := ⟨g2, i * 2 + j, none⟩) HW4.out.lt).trans (HWC.out j hj2)
              have hv := HLAW.out z x HFA.out j hj2
              have hle1 := HE4.out.net.waits_le z j
              have hle2 := HE3.out.net.waits_le z j
              obtain ⟨p, hp⟩ : ∃ p : Int, (waitsR A z (j : Int) : Int) = p := ⟨_, rfl⟩
              obtain ⟨p', hp'⟩ : ∃ p : Int, (waitsR N z (j : Int) : Int) = p := ⟨_, rfl⟩
              rw [hp] at e1
              have HWQ : Hid (∀ m, Calls Try.prog 13 #[.pointer (some ⟨pb, 0, none⟩), .int .i64 z, .int .i64 (j : Int)] (wr.drewN m) fun e w' => e = .returned (.int .i64 p') ∧ w' = wr.drewN m) := fun m => by
                have := waits_any w.heap.size (wr.drewN m) pb mb last N own4 z (j : Int) (HE4.out.below (below_drewN hbq m)).net z1 z2
                rw [hp'] at this
                exact this.mono fun _ _ ⟨q1, q2⟩ => ⟨q1, q2.symm⟩
              have CASES : ((er == 0) = false ∧ IntKind.i64.wrap (p + 0) = p' ∧ IntKind.i64.wrap p = p') ∨ ((er == 0) = true ∧ (z == k) = false ∧ IntKind.i64.wrap (p + 0) = p' ∧ IntKind.i64.wrap p = p') ∨ ((er == 0) = true ∧ (z == k) = true ∧ ((j : Int) == way) = false ∧ IntKind.i64.wrap (p + 0) = p' ∧ IntKind.i64.wrap p = p') ∨ ((er == 0) = true ∧ (z == k) = true ∧ ((j : Int) == way) = true ∧ IntKind.i64.wrap (p + (bn : Int)) = p' ∧ IntKind.i64.wrap (p + (bn : Int)) = p') := by
                have same : waitsR N z j = waitsR A z j → IntKind.i64.wrap (p + 0) = p' ∧ IntKind.i64.wrap p = p' := fun h => by
                  have : p' = p := by omega
                  subst this
                  exact ⟨by rw [Int.add_zero]; exact IntWalk.i64_in _ (by omega), IntWalk.i64_in _ (by omega)⟩
                by_cases c1 : er = 0
                · by_cases c2 : z = k
                  · by_cases c3 : (j : Int) = way
                    · rw [if_pos ⟨c1, c2, c3⟩] at hv
                      have h5 : p + (bn : Int) = p' := by omega
                      have h6 : IntKind.i64.wrap (p + (bn : Int)) = p' := by rw [h5]; exact IntWalk.i64_in _ (by omega)
                      exact Or.inr (Or.inr (Or.inr ⟨by simpa using c1, by simpa using c2, by simpa using c3, h6, h6⟩))
                    · rw [if_neg (fun q => c3 q.2.2)] at hv
                      exact Or.inr (Or.inr (Or.inl ⟨by simpa using c1, by simpa using c2, by simpa using c3, same hv⟩))
                  · rw [if_neg (fun q => c2 q.2.1)] at hv
                    exact Or.inr (Or.inl ⟨by simpa using c1, by simpa using c2, same hv⟩)
                · rw [if_neg (fun q => c1 q.1)] at hv
                  exact Or.inl ⟨by simpa using c1, same hv⟩
              have j1 : (0 : Int) ≤ (j : Int) := by omega
              have j2 : (j : Int) < 2 := by omega
              clear hv hp hp' hle1 hle2 hbq
              rcases CASES with ⟨b1, s1, s2⟩ | ⟨b1, b2, s1, s2⟩ | ⟨b1, b2, b3, s1, s2⟩ | ⟨b1, b2, b3, s1, s2⟩
              all_goals
                go_wp2_with fail
                go_quiet ((go_at_call 13
                           exact Calls.quiet_of_same (HWQ.out _)))
                go_wp2_with fail
                go_roundw
                case rel => exact ⟨j + 1, by omega, by go_num, below_drewN hb5.out _⟩
                case measure => simp [intOf]; omega
            · have HBQ := Lib.hid hbq
              clear hbq
              go_wp2_with fail
              go_roundw
              case rel => exact ⟨i + 1, by omega, by go_num, HBQ.out⟩
              case measure => simp [intOf]; omega
        · have HB5 : Hid (Below w.heap.size w wr) := HB4.out.trans (hb.out.mono HB4.out.size)
          go_wp2_with fail
          refine (works_any _).mono ?_
          rintro e w6 ⟨rfl, hb6⟩
          go_wp2_with fail
          go_ret
          exact ⟨rfl, HB5.out.trans (hb6.mono HB5.out.size)⟩
end Go.Proofs.Ytmgdbilmfialkaa
