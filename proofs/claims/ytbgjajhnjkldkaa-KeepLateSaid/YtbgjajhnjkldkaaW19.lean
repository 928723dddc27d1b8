/- KeepBack, by a walk over the contracts. -/
import Derived.Test.YtbgjajhnjkldkaaW18
namespace Go.Proofs.Ytbgjajhnjkldkaa
open Go.RowKit Go.WideShapes Go.Maps

theorem find_put {S : List It} {x : It} (hasc : S.Pairwise fun x y => x.k < y.k) (hn : findS S x.k = none) : findS (putS S x) x.k = some x :=
  find_of (putS_asc hasc (findS_none hn)) ((putS_perm S x).mem_iff.2 (List.mem_cons_self))
theorem back_user {S : List It} {k : Int} {x : It} (h : findS S k = some x) {v : ByteArray} (hv : (x.u.toList == v.toList) = false) (g : Gd) (t : Int) : backR S k v g t = (7, S) := by
  unfold backR
  rw [h]
  dsimp only
  rw [hv]
  rfl
theorem back_guid {S : List It} {k : Int} {x : It} (h : findS S k = some x) {g : Gd} (hg : gsame x.g g = false) (u : ByteArray) (t : Int) : backR S k u g t = (7, S) := by
  unfold backR
  rw [h]
  dsimp only
  rw [hg, Bool.and_false]
  rfl
theorem gsame_refl (g : Gd) : gsame g g = true := gsame_iff.2 fun _ _ => rfl
theorem back_own {S : List It} {k : Int} {x : It} (h : findS S k = some x) (t : Int) : backR S k x.u x.g t = if t < x.t then (0, delS S k) else (7, S) := by
  unfold backR
  rw [h]
  dsimp only
  rw [gsame_refl]
  by_cases ht : t < x.t
  · rw [if_pos ht, if_pos (by simpa using ht)]
  · rw [if_neg ht, if_neg (by simpa using ht)]
theorem back_none {S : List It} {k : Int} (h : findS S k = none) (u : ByteArray) (g : Gd) (t : Int) : backR S k u g t = (7, S) := by
  unfold backR
  rw [h]
theorem Acts.below {w w' : World} {ao : Option Addr} {n : Nat} {A : Nat → ActV} (h : Acts w ao n A) (hb : Below w.heap.size w w') : Acts w' ao n A := fun k hk => by
  obtain ⟨b, o, h1, h2, h3⟩ := h k hk
  exact ⟨b, o, h1, Nat.lt_of_lt_of_le h2 hb.size, h3.below hb h2⟩
attribute [-go_sem] Go.Instr.loadAt Go.run_neq_struct

set_option maxRecDepth 100000 in
set_option maxHeartbeats 4000000 in
theorem KeepBack_walk (ao : Option Addr) (n c : Nat) (F : Nat → ActV) (k : Int) (u v : ByteArray) (g h : Gd) (m l : Nat) (w : World) (hF : Acts w ao n F) (_ : n ≤ 9223372036854775807) (h1 : -9223372036854775808 ≤ k) (h2 : k ≤ 9223372036854775807)
    (_ : u.size ≤ maxLen) (_ : v.size ≤ maxLen) (_ : True) (_ : True) (hm : m ≤ 65535) (hl : l ≤ 255) :
    Calls Try.prog 5 #[.slice ao n c, .int .i64 k, .string u, .string v, .agg (gcs g), .agg (gcs h), .int .u16 (m : Int), .int .u8 (l : Int)] w fun e w' => e = .returned (.bool true) ∧ Below w.heap.size w w' := by
  have hb0 : Below w.heap.size w (w.alloc (.cells (gcs g) 39)) := (Below.refl _ _).alloc (Nat.le_refl _) _
  have hb0' : Below w.heap.size w ((w.alloc (.cells (gcs g) 39)).alloc (.cells (gcs h) 39)) := hb0.alloc hb0.size _
  have hsz : (w.alloc (.cells (gcs g) 39)).heap.size = w.heap.size + 1 := by simp
  have hn := Blk.new (w.alloc (.cells (gcs g) 39)) 39 (gcs h)
  rw [hsz] at hn
  have HBH := Lib.hid hn
  have HBG : Hid (Blk ((w.alloc (.cells (gcs g) 39)).alloc (.cells (gcs h) 39)) w.heap.size 39 (gcs g)) := (Blk.new w 39 (gcs g)).alloc _
  have HB0 := Lib.hid hb0'
  have HF := Lib.hid (hF.below hb0')
  clear hb0 hb0' hsz hn hF
  go_enter Try.func5, Try.ntmps5
  go_wp2_with fail
  generalize (w.alloc (.cells (gcs g) 39)).alloc (.cells (gcs h) 39) = wb at *
  have HGA : Hid (∀ w', Below wb.heap.size wb w' → Blk w' w.heap.size 39 (gcs g) ∧ Blk w' (w.heap.size + 1) 39 (gcs h)) := fun w' hb => ⟨HBG.out.below hb HBG.out.lt, HBH.out.below hb HBH.out.lt⟩
  have HEND : Hid (∀ w', Below wb.heap.size wb w' → Below w.heap.size w w') := fun w' hb => HB0.out.trans (hb.mono HB0.out.size)
  clear HBG HBH HB0
  refine (played_any wb ao n c F HF.out).mono ?_
  rintro e w1 ⟨pb, mb, rb, S, rfl, hh, hsl, hb⟩
  have HK1 : Hid (KeepAt wb.heap.size w1 pb mb S) := hh.keep
  have HB1 := Lib.hid hb
  have HASC := Lib.hid hh.keep.asc
  clear hb hh HF
  have iw : IntKind.i64.wrap (m : Int) = (m : Int) := IntWalk.i64_in _ (by omega)
  have iw2 : IntKind.i64.wrap (l : Int) = (l : Int) := IntWalk.i64_in _ (by omega)
  have iw3 : IntKind.i64.wrap ((m : Int) + (l : Int)) = (m : Int) + (l : Int) := IntWalk.i64_in _ (by omega)
  have l1 := blk_load39 (HGA.out w1 HB1.out).1
  go_wp2_with fail
  refine (put_any wb.heap.size w1 pb mb S k u g (m : Int) HK1.out ⟨h1, h2⟩ (by omega) (by omega) (by omega)).mono ?_
  cases hf : findS S k with
  | some y =>
    have hr : putR S ⟨k, u, g, (m : Int) + 5⟩ = (8, S) := by unfold putR; rw [show findS S (It.mk k u g ((m : Int) + 5)).k = findS S k from rfl, hf]; rfl
    rw [hr]
    rintro e w2 ⟨rfl, hs2⟩
    have HK2 := Lib.hid hs2.1
    have HB2 : Hid (Below wb.heap.size wb w2) := HB1.out.trans (hs2.bel HB1.out.size)
    have HFS : Hid ((findS S k).isSome = true) := by show _ = _; rw [hf]; rfl
    clear hs2 hr hf l1
    go_wp2_with fail
    refine (has_any wb.heap.size w2 pb mb S k HK2.out ⟨h1, h2⟩).mono ?_
    rw [HFS.out]
    rintro e w3 ⟨rfl, hb3⟩
    have HB3 : Hid (Below wb.heap.size wb w3) := HB2.out.trans (hb3.mono HB2.out.size)
    clear hb3
    go_wp2_with fail
    refine (works_any _).mono ?_
    rintro e w4 ⟨rfl, hb4⟩
    have HB4 : Hid (Below wb.heap.size wb w4) := HB3.out.trans (hb4.mono HB3.out.size)
    clear hb4
    go_wp2_with fail
    go_ret
    exact ⟨rfl, HEND.out _ HB4.out⟩
  | none =>
    have hr : putR S ⟨k, u, g, (m : Int) + 5⟩ = (0, putS S ⟨k, u, g, (m : Int) + 5⟩) := by unfold putR; rw [show findS S (It.mk k u g ((m : Int) + 5)).k = findS S k from rfl, hf]; rfl
    rw [hr]
    rintro e w2 ⟨rfl, hs2⟩
    have HK2 := Lib.hid hs2.1
    have HB2 : Hid (Below wb.heap.size wb w2) := HB1.out.trans (hs2.bel HB1.out.size)
    have hfp : findS (putS S ⟨k, u, g, (m : Int) + 5⟩) k = some ⟨k, u, g, (m : Int) + 5⟩ := find_put (x := ⟨k, u, g, (m : Int) + 5⟩) HASC.out hf
    dsimp only at HK2
    have HFP := Lib.hid hfp
    generalize putS S ⟨k, u, g, (m : Int) + 5⟩ = S1 at *
    clear hs2 hr hf l1 hfp
    obtain ⟨b1, hb1⟩ : ∃ b, (v.toList == u.toList) = b := ⟨_, rfl⟩
    obtain ⟨b2, hb2⟩ : ∃ b, gsame h g = b := ⟨_, rfl⟩
    have n1 : ∀ w, (binOp .neq 9 (.string v) (.string u)).run Try.prog w = .ok (.bool (!b1)) w := fun w => by rw [neq_str, hb1]
    have n2 : ∀ w, (binOp .neq 39 (.agg (gcs h)) (.agg (gcs g))).run Try.prog w = .ok (.bool (!b2)) w := fun w => by rw [neq_gd2, hb2]
    have n3 : ∀ w, (Op.stringOp .neq v u).run Try.prog w = .ok (.bool (!b1)) w := n1
    have HV : Hid (b1 = false → ∀ t, backR S1 k v g t = (7, S1)) := fun hbf t => back_user HFP.out (by
      rw [hbf] at hb1
      show (u.toList == v.toList) = false
      simp only [beq_eq_false_iff_ne, ne_eq] at hb1 ⊢
      exact fun e => hb1 e.symm) g t
    have HH : Hid (b2 = false → ∀ t, backR S1 k u h t = (7, S1)) := fun hbf t => back_guid HFP.out (by
      show gsame g h = false
      rw [hbf] at hb2
      cases hq : gsame g h with
      | false => rfl
      | true =>
        have hq' := gsame_iff.1 hq
        have : gsame h g = true := gsame_iff.2 fun i hi => (hq' i hi).symm
        rw [this] at hb2; cases hb2) u t
    have HO : Hid (∀ t, backR S1 k u g t = if t < (m : Int) + 5 then (0, delS S1 k) else (7, S1)) := fun t => back_own HFP.out t
    have HD : Hid (∀ t, backR (delS S1 k) k u g t = (7, delS S1 k)) := fun t => back_none (find_del_same S1 k) u g t
    clear hb2
    cases b1 with
    | false =>
      simp only [Bool.not_false] at n1 n3
      have hne : ¬ v.toList = u.toList := by simpa using hb1
      have hbn : (v.toList != u.toList) = true := by simpa using hb1
      have hdc : decide (v.toList = u.toList) = false := by simpa using hb1
      have hg2 := HGA.out w2 HB2.out
      have l2 := blk_load39 hg2.1
      have l3 := blk_load39 hg2.2
      clear hg2
      go_wp2_with fail
      refine (back_any wb.heap.size w2 pb mb S1 k v g _ HK2.out ⟨h1, h2⟩).mono ?_
      rw [HV.out (by first | exact rfl | exact trivial)]
      rintro e w3 ⟨rfl, hs3⟩
      have HK3 := Lib.hid hs3.1
      have HB3 : Hid (Below wb.heap.size wb w3) := HB2.out.trans (hs3.bel HB2.out.size)
      clear hs3 l2 l3 HV
      have hg3 := HGA.out w3 HB3.out
      have l2 := blk_load39 hg3.1
      have l3 := blk_load39 hg3.2
      clear hg3
      cases b2 with
      | false =>
        simp only [Bool.not_false] at n2
        go_wp2_with fail
        refine (back_any wb.heap.size w3 pb mb S1 k u h _ HK3.out ⟨h1, h2⟩).mono ?_
        rw [HH.out (by first | exact rfl | exact trivial)]
        rintro e w4 ⟨rfl, hs4⟩
        have HKC := Lib.hid hs4.1
        have HBC : Hid (Below wb.heap.size wb w4) := HB3.out.trans (hs4.bel HB3.out.size)
        clear hs4 HH l2 l3
        have l5 := blk_load39 (HGA.out w4 HBC.out).1
        by_cases hl5 : l < 5
        · have ho : ∀ t, t = (m : Int) + (l : Int) → backR S1 k u g t = (0, delS S1 k) := fun t ht => by rw [HO.out, if_pos (by omega)]
          have hl5' : (l : Int) < 5 := by omega
          clear hl5
          go_wp2_with fail
          refine (back_any wb.heap.size w4 pb mb S1 k u g _ HKC.out ⟨h1, h2⟩).mono ?_
          rw [ho _ rfl]
          rintro e w5 ⟨rfl, hs5⟩
          have HK5 := Lib.hid hs5.1
          have HB5 : Hid (Below wb.heap.size wb w5) := HBC.out.trans (hs5.bel HBC.out.size)
          clear hs5 l5
          have l6 := blk_load39 (HGA.out w5 HB5.out).1
          go_wp2_with fail
          refine (has_any wb.heap.size w5 pb mb _ k HK5.out ⟨h1, h2⟩).mono ?_
          rw [find_del_same]
          rintro e w6 ⟨rfl, hb6⟩
          have HK6 := Lib.hid (HK5.out.below hb6)
          have HB6 : Hid (Below wb.heap.size wb w6) := HB5.out.trans (hb6.mono HB5.out.size)
          clear hb6 l6
          have l7 := blk_load39 (HGA.out w6 HB6.out).1
          go_wp2_with fail
          refine (back_any wb.heap.size w6 pb mb _ k u g _ HK6.out ⟨h1, h2⟩).mono ?_
          rw [HD.out]
          rintro e w7 ⟨rfl, hs7⟩
          have HB7 : Hid (Below wb.heap.size wb w7) := HB6.out.trans (hs7.bel HB6.out.size)
          clear hs7 l7
          go_wp2_with fail
          refine (works_any _).mono ?_
          rintro e w8 ⟨rfl, hb8⟩
          have HB8 : Hid (Below wb.heap.size wb w8) := HB7.out.trans (hb8.mono HB7.out.size)
          clear hb8
          go_wp2_with fail
          go_ret
          exact ⟨rfl, HEND.out _ HB8.out⟩
        · have ho : ∀ t, t = (m : Int) + (l : Int) → backR S1 k u g t = (7, S1) := fun t ht => by rw [HO.out, if_neg (by omega)]
          have hl5' : ¬ (l : Int) < 5 := by omega
          have HFS : Hid ((findS S1 k).isSome = true) := by show _ = _; rw [HFP.out]; rfl
          clear hl5
          go_wp2_with fail
          refine (back_any wb.heap.size w4 pb mb S1 k u g _ HKC.out ⟨h1, h2⟩).mono ?_
          rw [ho _ rfl]
          rintro e w5 ⟨rfl, hs5⟩
          have HK5 := Lib.hid hs5.1
          have HB5 : Hid (Below wb.heap.size wb w5) := HBC.out.trans (hs5.bel HBC.out.size)
          clear hs5 l5
          go_wp2_with fail
          refine (has_any wb.heap.size w5 pb mb _ k HK5.out ⟨h1, h2⟩).mono ?_
          rw [HFS.out]
          rintro e w6 ⟨rfl, hb6⟩
          have HB6 : Hid (Below wb.heap.size wb w6) := HB5.out.trans (hb6.mono HB5.out.size)
          clear hb6
          go_wp2_with fail
          refine (works_any _).mono ?_
          rintro e w8 ⟨rfl, hb8⟩
          have HB8 : Hid (Below wb.heap.size wb w8) := HB6.out.trans (hb8.mono HB6.out.size)
          clear hb8
          go_wp2_with fail
          go_ret
          exact ⟨rfl, HEND.out _ HB8.out⟩

      | true =>
        simp only [Bool.not_true] at n2
        have HKC : Hid (KeepAt wb.heap.size w3 pb mb S1) := HK3.out
        have HBC : Hid (Below wb.heap.size wb w3) := HB3.out
        clear HH HK3 HB3
        have l5 := blk_load39 (HGA.out w3 HBC.out).1
        by_cases hl5 : l < 5
        · have ho : ∀ t, t = (m : Int) + (l : Int) → backR S1 k u g t = (0, delS S1 k) := fun t ht => by rw [HO.out, if_pos (by omega)]
          have hl5' : (l : Int) < 5 := by omega
          clear hl5
          go_wp2_with fail
          refine (back_any wb.heap.size w3 pb mb S1 k u g _ HKC.out ⟨h1, h2⟩).mono ?_
          rw [ho _ rfl]
          rintro e w5 ⟨rfl, hs5⟩
          have HK5 := Lib.hid hs5.1
          have HB5 : Hid (Below wb.heap.size wb w5) := HBC.out.trans (hs5.bel HBC.out.size)
          clear hs5 l5
          have l6 := blk_load39 (HGA.out w5 HB5.out).1
          go_wp2_with fail
          refine (has_any wb.heap.size w5 pb mb _ k HK5.out ⟨h1, h2⟩).mono ?_
          rw [find_del_same]
          rintro e w6 ⟨rfl, hb6⟩
          have HK6 := Lib.hid (HK5.out.below hb6)
          have HB6 : Hid (Below wb.heap.size wb w6) := HB5.out.trans (hb6.mono HB5.out.size)
          clear hb6 l6
          have l7 := blk_load39 (HGA.out w6 HB6.out).1
          go_wp2_with fail
          refine (back_any wb.heap.size w6 pb mb _ k u g _ HK6.out ⟨h1, h2⟩).mono ?_
          rw [HD.out]
          rintro e w7 ⟨rfl, hs7⟩
          have HB7 : Hid (Below wb.heap.size wb w7) := HB6.out.trans (hs7.bel HB6.out.size)
          clear hs7 l7
          go_wp2_with fail
          refine (works_any _).mono ?_
          rintro e w8 ⟨rfl, hb8⟩
          have HB8 : Hid (Below wb.heap.size wb w8) := HB7.out.trans (hb8.mono HB7.out.size)
          clear hb8
          go_wp2_with fail
          go_ret
          exact ⟨rfl, HEND.out _ HB8.out⟩
        · have ho : ∀ t, t = (m : Int) + (l : Int) → backR S1 k u g t = (7, S1) := fun t ht => by rw [HO.out, if_neg (by omega)]
          have hl5' : ¬ (l : Int) < 5 := by omega
          have HFS : Hid ((findS S1 k).isSome = true) := by show _ = _; rw [HFP.out]; rfl
          clear hl5
          go_wp2_with fail
          refine (back_any wb.heap.size w3 pb mb S1 k u g _ HKC.out ⟨h1, h2⟩).mono ?_
          rw [ho _ rfl]
          rintro e w5 ⟨rfl, hs5⟩
          have HK5 := Lib.hid hs5.1
          have HB5 : Hid (Below wb.heap.size wb w5) := HBC.out.trans (hs5.bel HBC.out.size)
          clear hs5 l5
          go_wp2_with fail
          refine (has_any wb.heap.size w5 pb mb _ k HK5.out ⟨h1, h2⟩).mono ?_
          rw [HFS.out]
          rintro e w6 ⟨rfl, hb6⟩
          have HB6 : Hid (Below wb.heap.size wb w6) := HB5.out.trans (hb6.mono HB5.out.size)
          clear hb6
          go_wp2_with fail
          refine (works_any _).mono ?_
          rintro e w8 ⟨rfl, hb8⟩
          have HB8 : Hid (Below wb.heap.size wb w8) := HB6.out.trans (hb8.mono HB6.out.size)
          clear hb8
          go_wp2_with fail
          go_ret
          exact ⟨rfl, HEND.out _ HB8.out⟩

    | true =>
      simp only [Bool.not_true] at n1 n3
      have heq : v.toList = u.toList := by simpa using hb1
      have hdc : decide (v.toList = u.toList) = true := by simpa using hb1
      have HK3 : Hid (KeepAt wb.heap.size w2 pb mb S1) := HK2.out
      have HB3 : Hid (Below wb.heap.size wb w2) := HB2.out
      clear HV
      have hg3 := HGA.out w2 HB3.out
      have l2 := blk_load39 hg3.1
      have l3 := blk_load39 hg3.2
      clear hg3
      cases b2 with
      | false =>
        simp only [Bool.not_false] at n2
        go_wp2_with fail
        refine (back_any wb.heap.size w2 pb mb S1 k u h _ HK3.out ⟨h1, h2⟩).mono ?_
        rw [HH.out (by first | exact rfl | exact trivial)]
        rintro e w4 ⟨rfl, hs4⟩
        have HKC := Lib.hid hs4.1
        have HBC : Hid (Below wb.heap.size wb w4) := HB3.out.trans (hs4.bel HB3.out.size)
        clear hs4 HH l2 l3
        have l5 := blk_load39 (HGA.out w4 HBC.out).1
        by_cases hl5 : l < 5
        · have ho : ∀ t, t = (m : Int) + (l : Int) → backR S1 k u g t = (0, delS S1 k) := fun t ht => by rw [HO.out, if_pos (by omega)]
          have hl5' : (l : Int) < 5 := by omega
          clear hl5
          go_wp2_with fail
          refine (back_any wb.heap.size w4 pb mb S1 k u g _ HKC.out ⟨h1, h2⟩).mono ?_
          rw [ho _ rfl]
          rintro e w5 ⟨rfl, hs5⟩
          have HK5 := Lib.hid hs5.1
          have HB5 : Hid (Below wb.heap.size wb w5) := HBC.out.trans (hs5.bel HBC.out.size)
          clear hs5 l5
          have l6 := blk_load39 (HGA.out w5 HB5.out).1
          go_wp2_with fail
          refine (has_any wb.heap.size w5 pb mb _ k HK5.out ⟨h1, h2⟩).mono ?_
          rw [find_del_same]
          rintro e w6 ⟨rfl, hb6⟩
          have HK6 := Lib.hid (HK5.out.below hb6)
          have HB6 : Hid (Below wb.heap.size wb w6) := HB5.out.trans (hb6.mono HB5.out.size)
          clear hb6 l6
          have l7 := blk_load39 (HGA.out w6 HB6.out).1
          go_wp2_with fail
          refine (back_any wb.heap.size w6 pb mb _ k u g _ HK6.out ⟨h1, h2⟩).mono ?_
          rw [HD.out]
          rintro e w7 ⟨rfl, hs7⟩
          have HB7 : Hid (Below wb.heap.size wb w7) := HB6.out.trans (hs7.bel HB6.out.size)
          clear hs7 l7
          go_wp2_with fail
          refine (works_any _).mono ?_
          rintro e w8 ⟨rfl, hb8⟩
          have HB8 : Hid (Below wb.heap.size wb w8) := HB7.out.trans (hb8.mono HB7.out.size)
          clear hb8
          go_wp2_with fail
          go_ret
          exact ⟨rfl, HEND.out _ HB8.out⟩
        · have ho : ∀ t, t = (m : Int) + (l : Int) → backR S1 k u g t = (7, S1) := fun t ht => by rw [HO.out, if_neg (by omega)]
          have hl5' : ¬ (l : Int) < 5 := by omega
          have HFS : Hid ((findS S1 k).isSome = true) := by show _ = _; rw [HFP.out]; rfl
          clear hl5
          go_wp2_with fail
          refine (back_any wb.heap.size w4 pb mb S1 k u g _ HKC.out ⟨h1, h2⟩).mono ?_
          rw [ho _ rfl]
          rintro e w5 ⟨rfl, hs5⟩
          have HK5 := Lib.hid hs5.1
          have HB5 : Hid (Below wb.heap.size wb w5) := HBC.out.trans (hs5.bel HBC.out.size)
          clear hs5 l5
          go_wp2_with fail
          refine (has_any wb.heap.size w5 pb mb _ k HK5.out ⟨h1, h2⟩).mono ?_
          rw [HFS.out]
          rintro e w6 ⟨rfl, hb6⟩
          have HB6 : Hid (Below wb.heap.size wb w6) := HB5.out.trans (hb6.mono HB5.out.size)
          clear hb6
          go_wp2_with fail
          refine (works_any _).mono ?_
          rintro e w8 ⟨rfl, hb8⟩
          have HB8 : Hid (Below wb.heap.size wb w8) := HB6.out.trans (hb8.mono HB6.out.size)
          clear hb8
          go_wp2_with fail
          go_ret
          exact ⟨rfl, HEND.out _ HB8.out⟩

      | true =>
        simp only [Bool.not_true] at n2
        have HKC : Hid (KeepAt wb.heap.size w2 pb mb S1) := HK3.out
        have HBC : Hid (Below wb.heap.size wb w2) := HB3.out
        clear HH HK3 HB3
        have l5 := blk_load39 (HGA.out w2 HBC.out).1
        by_cases hl5 : l < 5
        · have ho : ∀ t, t = (m : Int) + (l : Int) → backR S1 k u g t = (0, delS S1 k) := fun t ht => by rw [HO.out, if_pos (by omega)]
          have hl5' : (l : Int) < 5 := by omega
          clear hl5
          go_wp2_with fail
          refine (back_any wb.heap.size w2 pb mb S1 k u g _ HKC.out ⟨h1, h2⟩).mono ?_
          rw [ho _ rfl]
          rintro e w5 ⟨rfl, hs5⟩
          have HK5 := Lib.hid hs5.1
          have HB5 : Hid (Below wb.heap.size wb w5) := HBC.out.trans (hs5.bel HBC.out.size)
          clear hs5 l5
          have l6 := blk_load39 (HGA.out w5 HB5.out).1
          go_wp2_with fail
          refine (has_any wb.heap.size w5 pb mb _ k HK5.out ⟨h1, h2⟩).mono ?_
          rw [find_del_same]
          rintro e w6 ⟨rfl, hb6⟩
          have HK6 := Lib.hid (HK5.out.below hb6)
          have HB6 : Hid (Below wb.heap.size wb w6) := HB5.out.trans (hb6.mono HB5.out.size)
          clear hb6 l6
          have l7 := blk_load39 (HGA.out w6 HB6.out).1
          go_wp2_with fail
          refine (back_any wb.heap.size w6 pb mb _ k u g _ HK6.out ⟨h1, h2⟩).mono ?_
          rw [HD.out]
          rintro e w7 ⟨rfl, hs7⟩
          have HB7 : Hid (Below wb.heap.size wb w7) := HB6.out.trans (hs7.bel HB6.out.size)
          clear hs7 l7
          go_wp2_with fail
          refine (works_any _).mono ?_
          rintro e w8 ⟨rfl, hb8⟩
          have HB8 : Hid (Below wb.heap.size wb w8) := HB7.out.trans (hb8.mono HB7.out.size)
          clear hb8
          go_wp2_with fail
          go_ret
          exact ⟨rfl, HEND.out _ HB8.out⟩
        · have ho : ∀ t, t = (m : Int) + (l : Int) → backR S1 k u g t = (7, S1) := fun t ht => by rw [HO.out, if_neg (by omega)]
          have hl5' : ¬ (l : Int) < 5 := by omega
          have HFS : Hid ((findS S1 k).isSome = true) := by show _ = _; rw [HFP.out]; rfl
          clear hl5
          go_wp2_with fail
          refine (back_any wb.heap.size w2 pb mb S1 k u g _ HKC.out ⟨h1, h2⟩).mono ?_
          rw [ho _ rfl]
          rintro e w5 ⟨rfl, hs5⟩
          have HK5 := Lib.hid hs5.1
          have HB5 : Hid (Below wb.heap.size wb w5) := HBC.out.trans (hs5.bel HBC.out.size)
          clear hs5 l5
          go_wp2_with fail
          refine (has_any wb.heap.size w5 pb mb _ k HK5.out ⟨h1, h2⟩).mono ?_
          rw [HFS.out]
          rintro e w6 ⟨rfl, hb6⟩
          have HB6 : Hid (Below wb.heap.size wb w6) := HB5.out.trans (hb6.mono HB5.out.size)
          clear hb6
          go_wp2_with fail
          refine (works_any _).mono ?_
          rintro e w8 ⟨rfl, hb8⟩
          have HB8 : Hid (Below wb.heap.size wb w8) := HB6.out.trans (hb8.mono HB6.out.size)
          clear hb8
          go_wp2_with fail
          go_ret
          exact ⟨rfl, HEND.out _ HB8.out⟩

end Go.Proofs.Ytbgjajhnjkldkaa
