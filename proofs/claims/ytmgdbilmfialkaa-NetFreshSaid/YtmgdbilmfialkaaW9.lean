/- NetPieces, by a walk over the contracts. -/
import Derived.Test.YtmgdbilmfialkaaW8
namespace Go.Proofs.Ytmgdbilmfialkaa
open Go.RowKit Go.WideShapes

theorem Env.law {T : Nat → Prop} {B : Nat} {w w' : World} {pb mb : Nat} {last : Int} {A : List Ab} {own : Own} (h : Env B w pb mb last A own) (hf : Fr T w w') (hT : ∀ k, T k → own k = (0, 9)) : Env B w' pb mb last A own :=
  ⟨h.net.fr hf (fun k _ hk => by rw [hT k hk]; simp), h.old, fun i hi => h.new i (Nat.le_trans hf.size hi), Nat.le_trans h.hB hf.size⟩
theorem Row.frB {B : Nat} {w w' : World} {ro : Option Addr} {n c : Nat} {e : TypeId} {K : Nat} {xs : List Value} (h : Row B w e K ro n c xs) (hf : Fr (rowOf ro) w w') (hw : B ≤ w.heap.size) : Below B w w' := by
  refine ⟨hf.os, hf.tape, hf.output, hf.size, fun k hk => hf.block k (Nat.lt_of_lt_of_le hk hw) ?_⟩
  intro hk2
  have := (h.tag k (Nat.lt_of_lt_of_le hk hw) hk2).1
  omega
theorem mostR_pos {most : Int} {n : Nat} (h : 0 < most) : (mostR most n : Int) ≤ most := by
  unfold mostR
  split <;> omega
theorem mostR_zero (n : Nat) : mostR 0 n = n := by unfold mostR; simp

theorem send1_0 (xs ps : List Value) : sendR [⟨1, xs, []⟩] 1 0 ps = if 4194304 < xs.length + ps.length then (3, [⟨1, xs, []⟩]) else (0, [⟨1, (xs ++ ps), []⟩]) := rfl
theorem move1_0 (xs : List Value) (most : Int) : moveR [⟨1, xs, []⟩] 1 0 most = (xs.take (mostR most xs.length), 0, [⟨1, (xs.drop (mostR most xs.length)), []⟩]) := rfl
set_option maxRecDepth 100000 in
set_option maxHeartbeats 4000000 in
theorem NetPieces_0 (ao : Option Addr) (n c : Nat) (F : Nat → Pc) (zo : Option Addr) (zn zc : Nat) (Z : Nat → Int) (w : World) (hF : Pcs 140737488351232 w ao n F) (_ : n ≤ 9223372036854775807) (hZ : Nums w zo zn Z) (_ : zn ≤ 9223372036854775807) :
    Calls Try.prog 3 #[.slice ao n c, .slice zo zn zc, .bool false] w fun e w' => e = .returned (.bool true) ∧ Below w.heap.size w w' := by
  have HF := Lib.hid hF
  have HZ := Lib.hid hZ
  obtain ⟨i0, hi, hz0, hz1, hz2⟩ := info_parts inf5
  clear hF hZ
  go_enter Try.func3, Try.ntmps3
  go_wp2_with fail
  refine (env_new w).mono ?_
  rintro e w1 ⟨pb, mb, own1, rfl, he1, hb1⟩
  have HE1 := Lib.hid he1
  have HB1 := Lib.hid hb1
  clear he1 hb1
  go_wp2_with fail
  refine (env_link _ w1 pb mb 0 [] own1 HE1.out (by decide)).mono ?_
  rw [show linkR [] 0 = (1, 0, 1, [⟨1, [], []⟩]) from rfl]
  rintro e w2 ⟨rfl, own2, he2, hf2, hb2, hq2⟩
  have HE2 : Hid (Env w.heap.size w2 pb mb 1 [⟨1, [], []⟩] own2) := he2
  have HB2 : Hid (Below w.heap.size w w2) := HB1.out.trans hb2
  clear he2 hf2 hb2 hq2
  go_wp2_with fail
  go_loopw [6, 11, 13] (fun _ s11 s13 wr => ∃ (i : Nat) (xs : List Value) (ro : Option Addr) (rc : Nat) (own : Own), i ≤ n ∧ i ≤ 60 ∧ s13 = .int .i64 i ∧ s11 = .slice ro xs.length rc ∧ xs.length ≤ 4194304 ∧ Hid (Row w.heap.size wr 5 1 ro xs.length rc xs) ∧ Hid (AllB xs) ∧ Hid (Out own ro) ∧ Hid (Env w.heap.size wr pb mb 1 [⟨1, xs, []⟩] own) ∧ Hid (Below w.heap.size w wr)) (fun _ _ s _ => 60 - (intOf s).toNat)
  case atStart => exact ⟨0, [], none, 0, own2, Nat.zero_le _, Nat.zero_le _, rfl, rfl, Nat.zero_le _, Row.nil _ _ _ _, AllB.nil, (fun k ⟨a, ha, _⟩ => by cases ha), HE2.out, HB2.out⟩
  case round =>
    obtain ⟨i, xs, ro, rc, own, hin, hi60, rfl, rfl, hxl, hr, hy, ho, he, hb⟩ := hrel
    by_cases hlt : i < n ∧ i < 60
    · obtain ⟨hl1, hl2⟩ := hlt
      obtain ⟨b, o, rfl, hbl, hc, hs, hyp, hpn⟩ := HF.out i hl1
      have d0 : wr.cell? ⟨b, o + i, none⟩ = some (.slice (F i).ao (F i).n (F i).c) := (hb.out.cell (p := ⟨b, _, none⟩) hbl).trans hc
      have HS := Lib.hid (hs.below hb.out (fun k _ hk => hk))
      have HYP := Lib.hid hyp
      have HS0 := Lib.hid hs
      generalize F i = q at *
      obtain ⟨po, pn, pc, ps⟩ := q
      dsimp only at d0 HS HS0 HYP hpn
      have hpl : ps.length = pn := HS.out.len1
      have i1 : (0 : Int) ≤ (i : Int) := by omega
      have i2 : (i : Int) < (n : Int) := by omega
      clear hc hs hyp
      go_wp2_with fail
      refine (env_send _ wr pb mb 1 _ own 1 0 po pn pc ps he.out (by decide) (by decide) HS.out HYP.out (by omega)).mono ?_
      rw [send1_0, hpl]
      by_cases hlim : 4194304 < xs.length + pn
      · rw [if_pos hlim]
        rintro e w3 ⟨rfl, own3, he3, hf3, hb3, hq3⟩
        have HB3 : Hid (Below w.heap.size w w3) := hb.out.trans hb3
        have d1 : w3.cell? ⟨b, o + i, none⟩ = some (.slice po pn pc) := (hb3.cell (p := ⟨b, _, none⟩) hbl).trans d0
        have v1 : IntKind.i64.wrap ((xs.length : Int) + (pn : Int)) = (xs.length : Int) + (pn : Int) := IntWalk.i64_in _ (by omega)
        have q1 : (4194304 : Int) < (xs.length : Int) + (pn : Int) := by omega
        clear he3 hf3 hb3 hq3 hpl hlim
        go_wp2_with fail
        refine (works_any w3).mono ?_
        rintro e w4 ⟨rfl, hb4⟩
        go_wp2_with fail
        go_ret
        exact ⟨rfl, HB3.out.trans (hb4.mono HB3.out.size)⟩
      · rw [if_neg hlim]
        rintro e w3 ⟨rfl, own3, he3, hf3, hb3, hq3⟩
        have HE3 := Lib.hid he3
        have HB3 : Hid (Below w.heap.size w w3) := hb.out.trans hb3
        have d1 : w3.cell? ⟨b, o + i, none⟩ = some (.slice po pn pc) := (hb3.cell (p := ⟨b, _, none⟩) hbl).trans d0
        have HR3 := Lib.hid (hr.out.step ho.out hf3)
        have HO3 := Lib.hid (ho.out.step (row_lt hr.out) hq3)
        have HS3 : Hid (Src w3 1 po pn ps) := HS0.out.below HB3.out (fun k _ hk => hk)
        have hw3 : w.heap.size ≤ w3.heap.size := HB3.out.size
        clear he3 hf3 hb3 hq3 d0
        go_wp2_with (at_builtin; refine wpList_append_src _ rfl (.tmp 57) (.tmp 61) 29 rfl w.heap.size 5 i0 _ 1 1 Try.underlying29 hi hz0 hz1 hz2 rfl (by decide) ro xs.length rc xs rfl HR3.out po pn pc ps rfl HS3.out HYP.out.one ?_ ?_ hw3 ?_)
        · unfold maxLen; omega
        · omega
        intro ro4 rc4 w4 hr4 hf4 hl4
        have HB4 : Hid (Below w.heap.size w w4) := HB3.out.trans (HR3.out.frB hf4 hw3)
        have HE4 : Hid (Env w.heap.size w4 pb mb 1 [⟨1, (xs ++ ps), []⟩] own3) := HE3.out.law hf4 HO3.out
        have hxl4 : (xs ++ ps).length = xs.length + pn := by rw [List.length_append, hpl]
        have HR4 : Hid (Row w.heap.size w4 5 1 ro4 (xs ++ ps).length rc4 (xs ++ ps)) := by show Row _ _ _ _ _ _ _ _; rw [hxl4]; exact hr4
        have HO4 : Hid (Out own3 ro4) := fun k hk => by
          rcases hl4 k hk with e | e
          · exact HO3.out k e
          · exact HE3.out.new k (by omega)
        have HY4 : Hid (AllB (xs ++ ps)) := hy.out.append HYP.out
        have HX4 := Lib.hid hxl4
        have hx4 : (xs ++ ps).length ≤ 4194304 := by omega
        have HX5 := Lib.hid hx4
        clear hr4 hf4 hl4 hxl4 hx4 hpl
        go_wp2_with fail
        go_roundw
        case rel => exact ⟨i + 1, xs ++ ps, ro4, rc4, own3, by omega, by omega, by go_num, by rw [HX4.out], HX5.out, HR4.out, HY4.out, HO4.out, HE4.out, HB4.out⟩
        case measure => simp [intOf]; omega
    · have hstop : ¬ (i < n ∧ i < 60) := hlt
      by_cases hend : i < n
      all_goals
        have hend2 : i < n → ¬ i < 60 := by omega
        clear hlt hstop
        first | (have hend3 := hend2 hend; clear hend2) | clear hend2
        go_wp2_with fail
        refine (env_waits _ wr pb mb 1 _ own 1 0 he.out (by decide) (by decide)).mono ?_
        rw [show waitsR [⟨1, xs, []⟩] 1 0 = xs.length from rfl]
        rintro e w3 ⟨rfl, rfl⟩
        go_wp2_with fail
        refine (env_waits _ wr pb mb 1 _ own 1 1 he.out (by decide) (by decide)).mono ?_
        rw [show waitsR [⟨1, xs, []⟩] 1 1 = 0 from rfl]
        rintro e w3 ⟨rfl, rfl⟩
        go_wp2_with fail
        go_loopw [6, 12, 14, 15, 16] (fun _ s12 s14 _ _ wr => ∃ (k : Nat) (ys zs : List Value) (go_ : Option Addr) (gc : Nat) (own : Own), k ≤ zn ∧ k ≤ 60 ∧ s14 = .int .i64 k ∧ s12 = .slice go_ ys.length gc ∧ Hid (ys ++ zs = xs) ∧ Hid (Row w.heap.size wr 5 1 go_ ys.length gc ys) ∧ Hid (Out own go_) ∧ Hid (Row w.heap.size wr 5 1 ro xs.length rc xs) ∧ Hid (Out own ro) ∧ Hid (∀ i, rowOf go_ i → ¬ rowOf ro i) ∧ Hid (Env w.heap.size wr pb mb 1 [⟨1, zs, []⟩] own) ∧ Hid (Below w.heap.size w wr)) (fun _ _ s _ _ _ => 60 - (intOf s).toNat)
        case atStart => exact ⟨0, [], xs, none, 0, own, Nat.zero_le _, Nat.zero_le _, rfl, rfl, rfl, Row.nil _ _ _ _, (fun k ⟨a, ha, _⟩ => by cases ha), hr.out, ho.out, (fun k ⟨a, ha, _⟩ => by cases ha), he.out, hb.out⟩
        case round =>
          clear he hr ho hb
          obtain ⟨k, ys, zs, go_, gc, own, hk, hk60, rfl, rfl, hxy, hr, ho, hra, hoa, hap, he, hb⟩ := hrel
          have hxyl : ys.length + zs.length = xs.length := by rw [← hxy.out, List.length_append]
          have hyz : AllB zs := fun v hv => hy.out v (by rw [← hxy.out]; exact List.mem_append_right _ hv)
          have hyy : AllB ys := fun v hv => hy.out v (by rw [← hxy.out]; exact List.mem_append_left _ hv)
          have HXYL := Lib.hid hxyl
          have HYZ := Lib.hid hyz
          have HYY := Lib.hid hyy
          by_cases hlt2 : k < zn ∧ k < 60
          · obtain ⟨hl1, hl2⟩ := hlt2
            obtain ⟨b, o, rfl, hbl, hc, z1, z2⟩ := HZ.out k hl1
            have d0 : wr.cell? ⟨b, o + k, none⟩ = some (.int .i64 (Z k)) := (hb.out.cell (p := ⟨b, _, none⟩) hbl).trans hc
            generalize Z k = most at *
            have i1 : (0 : Int) ≤ (k : Int) := by omega
            have i2 : (k : Int) < (zn : Int) := by omega
            clear hc hxyl hyz hyy
            go_wp2_with fail
            refine (env_move _ wr pb mb 1 _ own 1 0 most he.out (by decide) (by decide)).mono ?_
            rw [move1_0]
            obtain ⟨m, hm⟩ : ∃ m, mostR most zs.length = m := ⟨_, rfl⟩
            have hml : m ≤ zs.length := by rw [← hm]; exact mostR_le _ _
            have hmp : 0 < most → (m : Int) ≤ most := fun h => by rw [← hm]; exact mostR_pos h
            have htl : (zs.take m).length = m := by rw [List.length_take]; omega
            have HTL := Lib.hid htl
            rw [hm]
            rintro e w3 ⟨bo, bc, own3, rfl, hr3, hy3, ho3, he3, hf3, hb3, hq3⟩
            have HE3 := Lib.hid he3
            have HB3 : Hid (Below w.heap.size w w3) := hb.out.trans hb3
            have d1 : w3.cell? ⟨b, o + k, none⟩ = some (.int .i64 most) := (hb3.cell (p := ⟨b, _, none⟩) hbl).trans d0
            have HG3 := Lib.hid (hr.out.step ho.out hf3)
            have HGO3 := Lib.hid (ho.out.step (row_lt hr.out) hq3)
            have HA3 := Lib.hid (hra.out.step hoa.out hf3)
            have HAO3 := Lib.hid (hoa.out.step (row_lt hra.out) hq3)
            have hr3' : Row wr.heap.size w3 5 1 bo m bc (zs.take m) := by have := hr3; dsimp only at this; rw [htl] at this; exact this
            have HBR3 := Lib.hid hr3'
            have hw3 : w.heap.size ≤ w3.heap.size := HB3.out.size
            have hgl : ys.length + m ≤ 4194304 := by have := HXYL.out; omega
            dsimp only
            rw [htl]
            clear he3 hf3 hb3 hq3 hr3 hr3' hy3 ho3 d0 hm htl
            by_cases hpos : 0 < most
            · have hmp2 : ¬ (most : Int) < (m : Int) := by have := hmp hpos; omega
              clear hmp
              go_wp2_with (at_builtin; refine wpList_append_src _ rfl (.tmp 117) (.tmp 118) 29 rfl w.heap.size 5 i0 _ 1 1 Try.underlying29 hi hz0 hz1 hz2 rfl (by decide) go_ ys.length gc ys rfl HG3.out bo m bc (zs.take m) rfl HBR3.out.src (HYZ.out.take m).one ?_ ?_ hw3 ?_)
              · unfold maxLen; omega
              · omega
              intro go4 gc4 w4 hr4 hf4 hl4
              have HD : Hid (∃ (ys' zs' : List Value), ys'.length = ys.length + m ∧ ys' ++ zs' = xs ∧ zs' = zs.drop m ∧ Row w.heap.size w4 5 1 go4 ys'.length gc4 ys' ∧ Out own3 go4 ∧ Row w.heap.size w4 5 1 ro xs.length rc xs ∧ (∀ i, rowOf go4 i → ¬ rowOf ro i) ∧ Env w.heap.size w4 pb mb 1 [⟨1, zs', []⟩] own3 ∧ Below w.heap.size w w4) := by
                have hyl : (ys ++ zs.take m).length = ys.length + m := by rw [List.length_append, HTL.out]
                refine ⟨ys ++ zs.take m, zs.drop m, hyl, ?_, rfl, ?_, ?_, HA3.out.fr hf4 (fun i hi hi2 => hap.out i hi2 hi), ?_, HE3.out.law hf4 HGO3.out, HB3.out.trans (HG3.out.frB hf4 hw3)⟩
                · rw [List.append_assoc, List.take_append_drop]; exact hxy.out
                · rw [hyl]; exact hr4
                · intro i hi
                  rcases hl4 i hi with e | e
                  · exact HGO3.out i e
                  · exact HE3.out.new i (by omega)
                · intro i hi hi2
                  rcases hl4 i hi with e | e
                  · exact hap.out i e hi2
                  · have := row_lt HA3.out i hi2; omega
              clear hr4 hf4 hl4
              obtain ⟨ys', zs', q1, q2, q3, q4, q5, q6, q7, q8, q9⟩ := HD.out
              have HQ1 := Lib.hid q1
              have HQ2 := Lib.hid q2
              have HQ4 := Lib.hid q4
              have HQ5 := Lib.hid q5
              have HQ6 := Lib.hid q6
              have HQ7 := Lib.hid q7
              have HQ8 := Lib.hid q8
              have HQ9 := Lib.hid q9
              clear q1 q2 q3 q4 q5 q6 q7 q8 q9 HD
              go_wp2_with fail
              go_roundw
              case rel => exact ⟨k + 1, ys', zs', go4, gc4, own3, by omega, by omega, by go_num, by rw [HQ1.out], HQ2.out, HQ4.out, HQ5.out, HQ6.out, HAO3.out, HQ7.out, HQ8.out, HQ9.out⟩
              case measure => simp [intOf]; omega
            · clear hmp
              go_wp2_with (at_builtin; refine wpList_append_src _ rfl (.tmp 117) (.tmp 118) 29 rfl w.heap.size 5 i0 _ 1 1 Try.underlying29 hi hz0 hz1 hz2 rfl (by decide) go_ ys.length gc ys rfl HG3.out bo m bc (zs.take m) rfl HBR3.out.src (HYZ.out.take m).one ?_ ?_ hw3 ?_)
              · unfold maxLen; omega
              · omega
              intro go4 gc4 w4 hr4 hf4 hl4
              have HD : Hid (∃ (ys' zs' : List Value), ys'.length = ys.length + m ∧ ys' ++ zs' = xs ∧ zs' = zs.drop m ∧ Row w.heap.size w4 5 1 go4 ys'.length gc4 ys' ∧ Out own3 go4 ∧ Row w.heap.size w4 5 1 ro xs.length rc xs ∧ (∀ i, rowOf go4 i → ¬ rowOf ro i) ∧ Env w.heap.size w4 pb mb 1 [⟨1, zs', []⟩] own3 ∧ Below w.heap.size w w4) := by
                have hyl : (ys ++ zs.take m).length = ys.length + m := by rw [List.length_append, HTL.out]
                refine ⟨ys ++ zs.take m, zs.drop m, hyl, ?_, rfl, ?_, ?_, HA3.out.fr hf4 (fun i hi hi2 => hap.out i hi2 hi), ?_, HE3.out.law hf4 HGO3.out, HB3.out.trans (HG3.out.frB hf4 hw3)⟩
                · rw [List.append_assoc, List.take_append_drop]; exact hxy.out
                · rw [hyl]; exact hr4
                · intro i hi
                  rcases hl4 i hi with e | e
                  · exact HGO3.out i e
                  · exact HE3.out.new i (by omega)
                · intro i hi hi2
                  rcases hl4 i hi with e | e
                  · exact hap.out i e hi2
                  · have := row_lt HA3.out i hi2; omega
              clear hr4 hf4 hl4
              obtain ⟨ys', zs', q1, q2, q3, q4, q5, q6, q7, q8, q9⟩ := HD.out
              have HQ1 := Lib.hid q1
              have HQ2 := Lib.hid q2
              have HQ4 := Lib.hid q4
              have HQ5 := Lib.hid q5
              have HQ6 := Lib.hid q6
              have HQ7 := Lib.hid q7
              have HQ8 := Lib.hid q8
              have HQ9 := Lib.hid q9
              clear q1 q2 q3 q4 q5 q6 q7 q8 q9 HD
              go_wp2_with fail
              go_roundw
              case rel => exact ⟨k + 1, ys', zs', go4, gc4, own3, by omega, by omega, by go_num, by rw [HQ1.out], HQ2.out, HQ4.out, HQ5.out, HQ6.out, HAO3.out, HQ7.out, HQ8.out, HQ9.out⟩
              case measure => simp [intOf]; omega
          · by_cases hkn : k < zn
            all_goals
              have hkn2 : k < zn → ¬ k < 60 := by omega
              clear hlt2 hxyl hyz hyy
              first | (have hkn3 := hkn2 hkn; clear hkn2) | clear hkn2
              go_wp2_with fail
              refine (env_move _ wr pb mb 1 _ own 1 0 0 he.out (by decide) (by decide)).mono ?_
              rw [move1_0, mostR_zero, List.take_length, List.drop_length]
              rintro e w3 ⟨bo, bc, own3, rfl, hr3, hy3, ho3, he3, hf3, hb3, hq3⟩
              have HE3 := Lib.hid he3
              have HB3 : Hid (Below w.heap.size w w3) := hb.out.trans hb3
              have HG3 := Lib.hid (hr.out.step ho.out hf3)
              have HGO3 := Lib.hid (ho.out.step (row_lt hr.out) hq3)
              have HA3 := Lib.hid (hra.out.step hoa.out hf3)
              have HAO3 := Lib.hid (hoa.out.step (row_lt hra.out) hq3)
              have HBR3 : Hid (Row wr.heap.size w3 5 1 bo zs.length bc zs) := hr3
              have hw3 : w.heap.size ≤ w3.heap.size := HB3.out.size
              clear he3 hf3 hb3 hq3 hr3 hy3 ho3
              dsimp only
              go_wp2_with (at_builtin; refine wpList_append_src _ rfl (.tmp 127) (.tmp 128) 29 rfl w.heap.size 5 i0 _ 1 1 Try.underlying29 hi hz0 hz1 hz2 rfl (by decide) go_ ys.length gc ys rfl HG3.out bo zs.length bc zs rfl HBR3.out.src HYZ.out.one ?_ ?_ hw3 ?_)
              · have := HXYL.out; unfold maxLen; omega
              · have := HXYL.out; omega
              intro go4 gc4 w4 hr4 hf4 hl4
              have HE4 : Hid (Env w.heap.size w4 pb mb 1 [⟨1, [], []⟩] own3) := HE3.out.law hf4 HGO3.out
              have HB4 : Hid (Below w.heap.size w w4) := HB3.out.trans (HG3.out.frB hf4 hw3)
              rw [hxy.out] at hr4
              rw [HXYL.out] at hr4 ⊢
              have HR4 := Lib.hid hr4
              have HA4 : Hid (Row w.heap.size w4 5 1 ro xs.length rc xs) := HA3.out.fr hf4 (fun i hi hi2 => hap.out i hi2 hi)
              clear hr4 hf4 hl4
              go_wp2_with fail
              refine (same_any w4 go4 ro xs.length gc4 rc xs HR4.out.src HA4.out.src hy.out (by omega)).mono ?_
              rintro e w5 ⟨rfl, hb5⟩
              have HE5 := Lib.hid (HE4.out.below hb5)
              have HB5 : Hid (Below w.heap.size w w5) := HB4.out.trans (hb5.mono HE4.out.hB)
              clear hb5
              go_wp2_with fail
              refine (env_waits _ w5 pb mb 1 _ own3 1 0 HE5.out (by decide) (by decide)).mono ?_
              rw [show waitsR [⟨1, [], []⟩] 1 0 = 0 from rfl]
              rintro e w6 ⟨rfl, rfl⟩
              go_wp2_with fail
              refine (works_any w5).mono ?_
              rintro e w7 ⟨rfl, hb7⟩
              go_wp2_with fail
              go_ret
              exact ⟨rfl, HB5.out.trans (hb7.mono HE5.out.hB)⟩

theorem send1_1 (xs ps : List Value) : sendR [⟨1, [], xs⟩] 1 1 ps = if 4194304 < xs.length + ps.length then (3, [⟨1, [], xs⟩]) else (0, [⟨1, [], (xs ++ ps)⟩]) := rfl
theorem move1_1 (xs : List Value) (most : Int) : moveR [⟨1, [], xs⟩] 1 1 most = (xs.take (mostR most xs.length), 0, [⟨1, [], (xs.drop (mostR most xs.length))⟩]) := rfl
set_option maxRecDepth 100000 in
set_option maxHeartbeats 4000000 in
theorem NetPieces_1 (ao : Option Addr) (n c : Nat) (F : Nat → Pc) (zo : Option Addr) (zn zc : Nat) (Z : Nat → Int) (w : World) (hF : Pcs 140737488351232 w ao n F) (_ : n ≤ 9223372036854775807) (hZ : Nums w zo zn Z) (_ : zn ≤ 9223372036854775807) :
    Calls Try.prog 3 #[.slice ao n c, .slice zo zn zc, .bool true] w fun e w' => e = .returned (.bool true) ∧ Below w.heap.size w w' := by
  have HF := Lib.hid hF
  have HZ := Lib.hid hZ
  obtain ⟨i0, hi, hz0, hz1, hz2⟩ := info_parts inf5
  clear hF hZ
  go_enter Try.func3, Try.ntmps3
  go_wp2_with fail
  refine (env_new w).mono ?_
  rintro e w1 ⟨pb, mb, own1, rfl, he1, hb1⟩
  have HE1 := Lib.hid he1
  have HB1 := Lib.hid hb1
  clear he1 hb1
  go_wp2_with fail
  refine (env_link _ w1 pb mb 0 [] own1 HE1.out (by decide)).mono ?_
  rw [show linkR [] 0 = (1, 0, 1, [⟨1, [], []⟩]) from rfl]
  rintro e w2 ⟨rfl, own2, he2, hf2, hb2, hq2⟩
  have HE2 : Hid (Env w.heap.size w2 pb mb 1 [⟨1, [], []⟩] own2) := he2
  have HB2 : Hid (Below w.heap.size w w2) := HB1.out.trans hb2
  clear he2 hf2 hb2 hq2
  go_wp2_with fail
  go_loopw [6, 11, 13] (fun _ s11 s13 wr => ∃ (i : Nat) (xs : List Value) (ro : Option Addr) (rc : Nat) (own : Own), i ≤ n ∧ i ≤ 60 ∧ s13 = .int .i64 i ∧ s11 = .slice ro xs.length rc ∧ xs.length ≤ 4194304 ∧ Hid (Row w.heap.size wr 5 1 ro xs.length rc xs) ∧ Hid (AllB xs) ∧ Hid (Out own ro) ∧ Hid (Env w.heap.size wr pb mb 1 [⟨1, [], xs⟩] own) ∧ Hid (Below w.heap.size w wr)) (fun _ _ s _ => 60 - (intOf s).toNat)
  case atStart => exact ⟨0, [], none, 0, own2, Nat.zero_le _, Nat.zero_le _, rfl, rfl, Nat.zero_le _, Row.nil _ _ _ _, AllB.nil, (fun k ⟨a, ha, _⟩ => by cases ha), HE2.out, HB2.out⟩
  case round =>
    obtain ⟨i, xs, ro, rc, own, hin, hi60, rfl, rfl, hxl, hr, hy, ho, he, hb⟩ := hrel
    by_cases hlt : i < n ∧ i < 60
    · obtain ⟨hl1, hl2⟩ := hlt
      obtain ⟨b, o, rfl, hbl, hc, hs, hyp, hpn⟩ := HF.out i hl1
      have d0 : wr.cell? ⟨b, o + i, none⟩ = some (.slice (F i).ao (F i).n (F i).c) := (hb.out.cell (p := ⟨b, _, none⟩) hbl).trans hc
      have HS := Lib.hid (hs.below hb.out (fun k _ hk => hk))
      have HYP := Lib.hid hyp
      have HS0 := Lib.hid hs
      generalize F i = q at *
      obtain ⟨po, pn, pc, ps⟩ := q
      dsimp only at d0 HS HS0 HYP hpn
      have hpl : ps.length = pn := HS.out.len1
      have i1 : (0 : Int) ≤ (i : Int) := by omega
      have i2 : (i : Int) < (n : Int) := by omega
      clear hc hs hyp
      go_wp2_with fail
      refine (env_send _ wr pb mb 1 _ own 1 1 po pn pc ps he.out (by decide) (by decide) HS.out HYP.out (by omega)).mono ?_
      rw [send1_1, hpl]
      by_cases hlim : 4194304 < xs.length + pn
      · rw [if_pos hlim]
        rintro e w3 ⟨rfl, own3, he3, hf3, hb3, hq3⟩
        have HB3 : Hid (Below w.heap.size w w3) := hb.out.trans hb3
        have d1 : w3.cell? ⟨b, o + i, none⟩ = some (.slice po pn pc) := (hb3.cell (p := ⟨b, _, none⟩) hbl).trans d0
        have v1 : IntKind.i64.wrap ((xs.length : Int) + (pn : Int)) = (xs.length : Int) + (pn : Int) := IntWalk.i64_in _ (by omega)
        have q1 : (4194304 : Int) < (xs.length : Int) + (pn : Int) := by omega
        clear he3 hf3 hb3 hq3 hpl hlim
        go_wp2_with fail
        refine (works_any w3).mono ?_
        rintro e w4 ⟨rfl, hb4⟩
        go_wp2_with fail
        go_ret
        exact ⟨rfl, HB3.out.trans (hb4.mono HB3.out.size)⟩
      · rw [if_neg hlim]
        rintro e w3 ⟨rfl, own3, he3, hf3, hb3, hq3⟩
        have HE3 := Lib.hid he3
        have HB3 : Hid (Below w.heap.size w w3) := hb.out.trans hb3
        have d1 : w3.cell? ⟨b, o + i, none⟩ = some (.slice po pn pc) := (hb3.cell (p := ⟨b, _, none⟩) hbl).trans d0
        have HR3 := Lib.hid (hr.out.step ho.out hf3)
        have HO3 := Lib.hid (ho.out.step (row_lt hr.out) hq3)
        have HS3 : Hid (Src w3 1 po pn ps) := HS0.out.below HB3.out (fun k _ hk => hk)
        have hw3 : w.heap.size ≤ w3.heap.size := HB3.out.size
        clear he3 hf3 hb3 hq3 d0
        go_wp2_with (at_builtin; refine wpList_append_src _ rfl (.tmp 57) (.tmp 61) 29 rfl w.heap.size 5 i0 _ 1 1 Try.underlying29 hi hz0 hz1 hz2 rfl (by decide) ro xs.length rc xs rfl HR3.out po pn pc ps rfl HS3.out HYP.out.one ?_ ?_ hw3 ?_)
        · unfold maxLen; omega
        · omega
        intro ro4 rc4 w4 hr4 hf4 hl4
        have HB4 : Hid (Below w.heap.size w w4) := HB3.out.trans (HR3.out.frB hf4 hw3)
        have HE4 : Hid (Env w.heap.size w4 pb mb 1 [⟨1, [], (xs ++ ps)⟩] own3) := HE3.out.law hf4 HO3.out
        have hxl4 : (xs ++ ps).length = xs.length + pn := by rw [List.length_append, hpl]
        have HR4 : Hid (Row w.heap.size w4 5 1 ro4 (xs ++ ps).length rc4 (xs ++ ps)) := by show Row _ _ _ _ _ _ _ _; rw [hxl4]; exact hr4
        have HO4 : Hid (Out own3 ro4) := fun k hk => by
          rcases hl4 k hk with e | e
          · exact HO3.out k e
          · exact HE3.out.new k (by omega)
        have HY4 : Hid (AllB (xs ++ ps)) := hy.out.append HYP.out
        have HX4 := Lib.hid hxl4
        have hx4 : (xs ++ ps).length ≤ 4194304 := by omega
        have HX5 := Lib.hid hx4
        clear hr4 hf4 hl4 hxl4 hx4 hpl
        go_wp2_with fail
        go_roundw
        case rel => exact ⟨i + 1, xs ++ ps, ro4, rc4, own3, by omega, by omega, by go_num, by rw [HX4.out], HX5.out, HR4.out, HY4.out, HO4.out, HE4.out, HB4.out⟩
        case measure => simp [intOf]; omega
    · have hstop : ¬ (i < n ∧ i < 60) := hlt
      by_cases hend : i < n
      all_goals
        have hend2 : i < n → ¬ i < 60 := by omega
        clear hlt hstop
        first | (have hend3 := hend2 hend; clear hend2) | clear hend2
        go_wp2_with fail
        refine (env_waits _ wr pb mb 1 _ own 1 1 he.out (by decide) (by decide)).mono ?_
        rw [show waitsR [⟨1, [], xs⟩] 1 1 = xs.length from rfl]
        rintro e w3 ⟨rfl, rfl⟩
        go_wp2_with fail
        refine (env_waits _ wr pb mb 1 _ own 1 0 he.out (by decide) (by decide)).mono ?_
        rw [show waitsR [⟨1, [], xs⟩] 1 0 = 0 from rfl]
        rintro e w3 ⟨rfl, rfl⟩
        go_wp2_with fail
        go_loopw [6, 12, 14, 15, 16] (fun _ s12 s14 _ _ wr => ∃ (k : Nat) (ys zs : List Value) (go_ : Option Addr) (gc : Nat) (own : Own), k ≤ zn ∧ k ≤ 60 ∧ s14 = .int .i64 k ∧ s12 = .slice go_ ys.length gc ∧ Hid (ys ++ zs = xs) ∧ Hid (Row w.heap.size wr 5 1 go_ ys.length gc ys) ∧ Hid (Out own go_) ∧ Hid (Row w.heap.size wr 5 1 ro xs.length rc xs) ∧ Hid (Out own ro) ∧ Hid (∀ i, rowOf go_ i → ¬ rowOf ro i) ∧ Hid (Env w.heap.size wr pb mb 1 [⟨1, [], zs⟩] own) ∧ Hid (Below w.heap.size w wr)) (fun _ _ s _ _ _ => 60 - (intOf s).toNat)
        case atStart => exact ⟨0, [], xs, none, 0, own, Nat.zero_le _, Nat.zero_le _, rfl, rfl, rfl, Row.nil _ _ _ _, (fun k ⟨a, ha, _⟩ => by cases ha), hr.out, ho.out, (fun k ⟨a, ha, _⟩ => by cases ha), he.out, hb.out⟩
        case round =>
          clear he hr ho hb
          obtain ⟨k, ys, zs, go_, gc, own, hk, hk60, rfl, rfl, hxy, hr, ho, hra, hoa, hap, he, hb⟩ := hrel
          have hxyl : ys.length + zs.length = xs.length := by rw [← hxy.out, List.length_append]
          have hyz : AllB zs := fun v hv => hy.out v (by rw [← hxy.out]; exact List.mem_append_right _ hv)
          have hyy : AllB ys := fun v hv => hy.out v (by rw [← hxy.out]; exact List.mem_append_left _ hv)
          have HXYL := Lib.hid hxyl
          have HYZ := Lib.hid hyz
          have HYY := Lib.hid hyy
          by_cases hlt2 : k < zn ∧ k < 60
          · obtain ⟨hl1, hl2⟩ := hlt2
            obtain ⟨b, o, rfl, hbl, hc, z1, z2⟩ := HZ.out k hl1
            have d0 : wr.cell? ⟨b, o + k, none⟩ = some (.int .i64 (Z k)) := (hb.out.cell (p := ⟨b, _, none⟩) hbl).trans hc
            generalize Z k = most at *
            have i1 : (0 : Int) ≤ (k : Int) := by omega
            have i2 : (k : Int) < (zn : Int) := by omega
            clear hc hxyl hyz hyy
            go_wp2_with fail
            refine (env_move _ wr pb mb 1 _ own 1 1 most he.out (by decide) (by decide)).mono ?_
            rw [move1_1]
            obtain ⟨m, hm⟩ : ∃ m, mostR most zs.length = m := ⟨_, rfl⟩
            have hml : m ≤ zs.length := by rw [← hm]; exact mostR_le _ _
            have hmp : 0 < most → (m : Int) ≤ most := fun h => by rw [← hm]; exact mostR_pos h
            have htl : (zs.take m).length = m := by rw [List.length_take]; omega
            have HTL := Lib.hid htl
            rw [hm]
            rintro e w3 ⟨bo, bc, own3, rfl, hr3, hy3, ho3, he3, hf3, hb3, hq3⟩
            have HE3 := Lib.hid he3
            have HB3 : Hid (Below w.heap.size w w3) := hb.out.trans hb3
            have d1 : w3.cell? ⟨b, o + k, none⟩ = some (.int .i64 most) := (hb3.cell (p := ⟨b, _, none⟩) hbl).trans d0
            have HG3 := Lib.hid (hr.out.step ho.out hf3)
            have HGO3 := Lib.hid (ho.out.step (row_lt hr.out) hq3)
            have HA3 := Lib.hid (hra.out.step hoa.out hf3)
            have HAO3 := Lib.hid (hoa.out.step (row_lt hra.out) hq3)
            have hr3' : Row wr.heap.size w3 5 1 bo m bc (zs.take m) := by have := hr3; dsimp only at this; rw [htl] at this; exact this
            have HBR3 := Lib.hid hr3'
            have hw3 : w.heap.size ≤ w3.heap.size := HB3.out.size
            have hgl : ys.length + m ≤ 4194304 := by have := HXYL.out; omega
            dsimp only
            rw [htl]
            clear he3 hf3 hb3 hq3 hr3 hr3' hy3 ho3 d0 hm htl
            by_cases hpos : 0 < most
            · have hmp2 : ¬ (most : Int) < (m : Int) := by have := hmp hpos; omega
              clear hmp
              go_wp2_with (at_builtin; refine wpList_append_src _ rfl (.tmp 117) (.tmp 118) 29 rfl w.heap.size 5 i0 _ 1 1 Try.underlying29 hi hz0 hz1 hz2 rfl (by decide) go_ ys.length gc ys rfl HG3.out bo m bc (zs.take m) rfl HBR3.out.src (HYZ.out.take m).one ?_ ?_ hw3 ?_)
              · unfold maxLen; omega
              · omega
              intro go4 gc4 w4 hr4 hf4 hl4
              have HD : Hid (∃ (ys' zs' : List Value), ys'.length = ys.length + m ∧ ys' ++ zs' = xs ∧ zs' = zs.drop m ∧ Row w.heap.size w4 5 1 go4 ys'.length gc4 ys' ∧ Out own3 go4 ∧ Row w.heap.size w4 5 1 ro xs.length rc xs ∧ (∀ i, rowOf go4 i → ¬ rowOf ro i) ∧ Env w.heap.size w4 pb mb 1 [⟨1, [], zs'⟩] own3 ∧ Below w.heap.size w w4) := by
                have hyl : (ys ++ zs.take m).length = ys.length + m := by rw [List.length_append, HTL.out]
                refine ⟨ys ++ zs.take m, zs.drop m, hyl, ?_, rfl, ?_, ?_, HA3.out.fr hf4 (fun i hi hi2 => hap.out i hi2 hi), ?_, HE3.out.law hf4 HGO3.out, HB3.out.trans (HG3.out.frB hf4 hw3)⟩
                · rw [List.append_assoc, List.take_append_drop]; exact hxy.out
                · rw [hyl]; exact hr4
                · intro i hi
                  rcases hl4 i hi with e | e
                  · exact HGO3.out i e
                  · exact HE3.out.new i (by omega)
                · intro i hi hi2
                  rcases hl4 i hi with e | e
                  · exact hap.out i e hi2
                  · have := row_lt HA3.out i hi2; omega
              clear hr4 hf4 hl4
              obtain ⟨ys', zs', q1, q2, q3, q4, q5, q6, q7, q8, q9⟩ := HD.out
              have HQ1 := Lib.hid q1
              have HQ2 := Lib.hid q2
              have HQ4 := Lib.hid q4
              have HQ5 := Lib.hid q5
              have HQ6 := Lib.hid q6
              have HQ7 := Lib.hid q7
              have HQ8 := Lib.hid q8
              have HQ9 := Lib.hid q9
              clear q1 q2 q3 q4 q5 q6 q7 q8 q9 HD
              go_wp2_with fail
              go_roundw
              case rel => exact ⟨k + 1, ys', zs', go4, gc4, own3, by omega, by omega, by go_num, by rw [HQ1.out], HQ2.out, HQ4.out, HQ5.out, HQ6.out, HAO3.out, HQ7.out, HQ8.out, HQ9.out⟩
              case measure => simp [intOf]; omega
            · clear hmp
              go_wp2_with (at_builtin; refine wpList_append_src _ rfl (.tmp 117) (.tmp 118) 29 rfl w.heap.size 5 i0 _ 1 1 Try.underlying29 hi hz0 hz1 hz2 rfl (by decide) go_ ys.length gc ys rfl HG3.out bo m bc (zs.take m) rfl HBR3.out.src (HYZ.out.take m).one ?_ ?_ hw3 ?_)
              · unfold maxLen; omega
              · omega
              intro go4 gc4 w4 hr4 hf4 hl4
              have HD : Hid (∃ (ys' zs' : List Value), ys'.length = ys.length + m ∧ ys' ++ zs' = xs ∧ zs' = zs.drop m ∧ Row w.heap.size w4 5 1 go4 ys'.length gc4 ys' ∧ Out own3 go4 ∧ Row w.heap.size w4 5 1 ro xs.length rc xs ∧ (∀ i, rowOf go4 i → ¬ rowOf ro i) ∧ Env w.heap.size w4 pb mb 1 [⟨1, [], zs'⟩] own3 ∧ Below w.heap.size w w4) := by
                have hyl : (ys ++ zs.take m).length = ys.length + m := by rw [List.length_append, HTL.out]
                refine ⟨ys ++ zs.take m, zs.drop m, hyl, ?_, rfl, ?_, ?_, HA3.out.fr hf4 (fun i hi hi2 => hap.out i hi2 hi), ?_, HE3.out.law hf4 HGO3.out, HB3.out.trans (HG3.out.frB hf4 hw3)⟩
                · rw [List.append_assoc, List.take_append_drop]; exact hxy.out
                · rw [hyl]; exact hr4
                · intro i hi
                  rcases hl4 i hi with e | e
                  · exact HGO3.out i e
                  · exact HE3.out.new i (by omega)
                · intro i hi hi2
                  rcases hl4 i hi with e | e
                  · exact hap.out i e hi2
                  · have := row_lt HA3.out i hi2; omega
              clear hr4 hf4 hl4
              obtain ⟨ys', zs', q1, q2, q3, q4, q5, q6, q7, q8, q9⟩ := HD.out
              have HQ1 := Lib.hid q1
              have HQ2 := Lib.hid q2
              have HQ4 := Lib.hid q4
              have HQ5 := Lib.hid q5
              have HQ6 := Lib.hid q6
              have HQ7 := Lib.hid q7
              have HQ8 := Lib.hid q8
              have HQ9 := Lib.hid q9
              clear q1 q2 q3 q4 q5 q6 q7 q8 q9 HD
              go_wp2_with fail
              go_roundw
              case rel => exact ⟨k + 1, ys', zs', go4, gc4, own3, by omega, by omega, by go_num, by rw [HQ1.out], HQ2.out, HQ4.out, HQ5.out, HQ6.out, HAO3.out, HQ7.out, HQ8.out, HQ9.out⟩
              case measure => simp [intOf]; omega
          · by_cases hkn : k < zn
            all_goals
              have hkn2 : k < zn → ¬ k < 60 := by omega
              clear hlt2 hxyl hyz hyy
              first | (have hkn3 := hkn2 hkn; clear hkn2) | clear hkn2
              go_wp2_with fail
              refine (env_move _ wr pb mb 1 _ own 1 1 0 he.out (by decide) (by decide)).mono ?_
              rw [move1_1, mostR_zero, List.take_length, List.drop_length]
              rintro e w3 ⟨bo, bc, own3, rfl, hr3, hy3, ho3, he3, hf3, hb3, hq3⟩
              have HE3 := Lib.hid he3
              have HB3 : Hid (Below w.heap.size w w3) := hb.out.trans hb3
              have HG3 := Lib.hid (hr.out.step ho.out hf3)
              have HGO3 := Lib.hid (ho.out.step (row_lt hr.out) hq3)
              have HA3 := Lib.hid (hra.out.step hoa.out hf3)
              have HAO3 := Lib.hid (hoa.out.step (row_lt hra.out) hq3)
              have HBR3 : Hid (Row wr.heap.size w3 5 1 bo zs.length bc zs) := hr3
              have hw3 : w.heap.size ≤ w3.heap.size := HB3.out.size
              clear he3 hf3 hb3 hq3 hr3 hy3 ho3
              dsimp only
              go_wp2_with (at_builtin; refine wpList_append_src _ rfl (.tmp 127) (.tmp 128) 29 rfl w.heap.size 5 i0 _ 1 1 Try.underlying29 hi hz0 hz1 hz2 rfl (by decide) go_ ys.length gc ys rfl HG3.out bo zs.length bc zs rfl HBR3.out.src HYZ.out.one ?_ ?_ hw3 ?_)
              · have := HXYL.out; unfold maxLen; omega
              · have := HXYL.out; omega
              intro go4 gc4 w4 hr4 hf4 hl4
              have HE4 : Hid (Env w.heap.size w4 pb mb 1 [⟨1, [], []⟩] own3) := HE3.out.law hf4 HGO3.out
              have HB4 : Hid (Below w.heap.size w w4) := HB3.out.trans (HG3.out.frB hf4 hw3)
              rw [hxy.out] at hr4
              rw [HXYL.out] at hr4 ⊢
              have HR4 := Lib.hid hr4
              have HA4 : Hid (Row w.heap.size w4 5 1 ro xs.length rc xs) := HA3.out.fr hf4 (fun i hi hi2 => hap.out i hi2 hi)
              clear hr4 hf4 hl4
              go_wp2_with fail
              refine (same_any w4 go4 ro xs.length gc4 rc xs HR4.out.src HA4.out.src hy.out (by omega)).mono ?_
              rintro e w5 ⟨rfl, hb5⟩
              have HE5 := Lib.hid (HE4.out.below hb5)
              have HB5 : Hid (Below w.heap.size w w5) := HB4.out.trans (hb5.mono HE4.out.hB)
              clear hb5
              go_wp2_with fail
              refine (env_waits _ w5 pb mb 1 _ own3 1 1 HE5.out (by decide) (by decide)).mono ?_
              rw [show waitsR [⟨1, [], []⟩] 1 1 = 0 from rfl]
              rintro e w6 ⟨rfl, rfl⟩
              go_wp2_with fail
              refine (works_any w5).mono ?_
              rintro e w7 ⟨rfl, hb7⟩
              go_wp2_with fail
              go_ret
              exact ⟨rfl, HB5.out.trans (hb7.mono HE5.out.hB)⟩

theorem NetPieces_walk (ao : Option Addr) (n c : Nat) (F : Nat → Pc) (zo : Option Addr) (zn zc : Nat) (Z : Nat → Int) (b : Bool) (w : World) (hF : Pcs 140737488351232 w ao n F) (hn : n ≤ 9223372036854775807) (hZ : Nums w zo zn Z) (hzn : zn ≤ 9223372036854775807) :
    Calls Try.prog 3 #[.slice ao n c, .slice zo zn zc, .bool b] w fun e w' => e = .returned (.bool true) ∧ Below w.heap.size w w' := by
  cases b
  · exact NetPieces_0 ao n c F zo zn zc Z w hF hn hZ hzn
  · exact NetPieces_1 ao n c F zo zn zc Z w hF hn hZ hzn
end Go.Proofs.Ytmgdbilmfialkaa
