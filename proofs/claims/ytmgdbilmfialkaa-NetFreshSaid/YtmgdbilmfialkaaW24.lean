/- NetFresh, by a walk over the contracts. -/
import Derived.Test.YtmgdbilmfialkaaW23
import Derived.Test.YtmgdbilmfialkaaW21
import Derived.Test.YtmgdbilmfialkaaW9
namespace Go.Proofs.Ytmgdbilmfialkaa
open Go.RowKit Go.WideShapes Go.Maps

theorem find_send {A : List Ab} {k : Int} {x : Ab} (h : findA A k = some x) (xs : List Value) : ∃ x', findA (sendR A k 0 xs).2 k = some x' ∧ ((sendR A k 0 xs).1 = 0 → x'.b0 = x.b0 ++ xs) := by
  rcases send_cases A k 0 xs with ⟨e, he, h2⟩ | ⟨J, y, hJ, hw, hf, h2⟩
  · rw [h2]; exact ⟨x, h, fun h0 => absurd h0 he⟩
  · have hJ0 : J = 0 := by omega
    subst hJ0
    rw [h] at hf
    injection hf with hf
    subst hf
    rw [h2]
    refine ⟨x.set 0 (x.b 0 ++ xs), ?_, fun _ => rfl⟩
    rw [find_setA, h, Option.map_some, if_pos (find_key h)]
theorem find_move {A : List Ab} {k : Int} {x : Ab} (h : findA A k = some x) (most : Int) : ∃ x', findA (moveR A k 0 most).2.2 k = some x' ∧ x'.b0 = x.b0.drop (mostR most x.b0.length) ∧ (moveR A k 0 most).1 = x.b0.take (mostR most x.b0.length) := by
  have e : moveR A k 0 most = (x.b0.take (mostR most x.b0.length), 0, setA A k 0 (x.b0.drop (mostR most x.b0.length))) := by unfold moveR; rw [h]; rfl
  rw [e]
  refine ⟨x.set 0 (x.b0.drop (mostR most x.b0.length)), ?_, rfl, rfl⟩
  rw [find_setA, h, Option.map_some, if_pos (find_key h)]
theorem mostR_is (n m : Nat) (h : 0 < n) (hm : n ≤ m) : mostR (n : Int) m = n := by
  unfold mostR
  rw [if_neg (by omega)]
  rfl
theorem fresh_law {A : List Ab} {k : Int} {x : Ab} (h : findA A k = some x) (h0 : x.b0 = []) (xs : List Value) :
    (∃ x1, findA (sendR A k 0 xs).2 k = some x1) ∧ (∃ x2, findA (sendR (sendR A k 0 xs).2 k 0 xs).2 k = some x2) ∧
      ((sendR A k 0 xs).1 = 0 → (sendR (sendR A k 0 xs).2 k 0 xs).1 = 0 → 0 < xs.length →
        (moveR (sendR (sendR A k 0 xs).2 k 0 xs).2 k 0 xs.length).1 = xs ∧ (moveR (moveR (sendR (sendR A k 0 xs).2 k 0 xs).2 k 0 xs.length).2.2 k 0 0).1 = xs) := by
  obtain ⟨x1, f1, g1⟩ := find_send h xs
  obtain ⟨x2, f2, g2⟩ := find_send f1 xs
  refine ⟨⟨x1, f1⟩, ⟨x2, f2⟩, fun e1 e2 hl => ?_⟩
  have hb : x2.b0 = xs ++ xs := by rw [g2 e2, g1 e1, h0]; rfl
  obtain ⟨x3, f3, g3, m3⟩ := find_move f2 (xs.length : Int)
  obtain ⟨x4, f4, g4, m4⟩ := find_move f3 0
  have hmm : mostR (xs.length : Int) x2.b0.length = xs.length := mostR_is _ _ hl (by rw [hb, List.length_append]; omega)
  rw [hmm] at g3 m3
  rw [m3, m4, mostR_zero, List.take_length, g3, hb, List.take_left, List.drop_left]
  exact ⟨rfl, rfl⟩
theorem find_last (A : List Ab) (last : Int) (h : ∀ x ∈ A, x.k ≤ last) : findA (A ++ [⟨last + 1, [], []⟩]) (last + 1) = some ⟨last + 1, [], []⟩ := by
  unfold findA
  rw [List.find?_append]
  have : A.find? (fun x => decide (x.k = last + 1)) = none := by
    rw [List.find?_eq_none]
    intro x hx
    have := h x hx
    simp; omega
  rw [this]
  simp

set_option maxRecDepth 100000 in
set_option maxHeartbeats 8000000 in
theorem NetFresh_walk (ao : Option Addr) (n c : Nat) (F : Nat → ActV) (bo : Option Addr) (bn bc : Nat) (xs : List Value) (w : World) (hF : Acts w ao n F) (_ : n ≤ 9223372036854775807)
    (hbs : Src w 1 bo bn xs ∧ AllB xs ∧ (bo = none → bn = 0 ∧ bc = 0) ∧ True) (_ : bn ≤ 9223372036854775807) (hbn : bn ≤ 140737488351232) :
    Calls Try.prog 4 #[.slice ao n c, .slice bo bn bc] w fun e w' => e = .returned (.bool true) ∧ Below w.heap.size w w' := by
  obtain ⟨hs0, hy0, _, _⟩ := hbs
  have HS0 := Lib.hid hs0
  have HY := Lib.hid hy0
  have hxl := hs0.len1
  clear hs0 hy0
  have HIN : Hid (∀ W, Below w.heap.size w W → Src W 1 bo bn xs) := fun W hb => HS0.out.below hb (fun _ _ h => h)
  go_enter Try.func4, Try.ntmps4
  go_wp2_with fail
  refine (played_any w ao n c F hF).mono ?_
  rintro e w1 ⟨pb, mb, rb, last, A, own, rfl, hh, hl, hb⟩
  have HE1 : Hid (Env w.heap.size w1 pb mb last A own) := hh.env
  have HB1 := Lib.hid hb
  obtain ⟨hasc, hrng⟩ := hh.env.asc
  have HRNG := Lib.hid hrng
  have HL0 : Hid (0 ≤ last) := by
    obtain ⟨L, e, h'⟩ := hh.env.net
    exact h'.last0
  clear hb hh hF hasc hrng
  go_wp2_with fail
  refine (env_link w.heap.size w1 pb mb last A own HE1.out (by omega)).mono ?_
  by_cases hful : 64 ≤ A.length
  · have hlk : linkR A last = (0, 3, last, A) := by unfold linkR; rw [if_pos hful]
    rw [hlk]
    rintro e w2 ⟨rfl, own2, he2, _, hb2, _⟩
    have HB2 : Hid (Below w.heap.size w w2) := HB1.out.trans hb2
    clear he2 hb2 hlk hful
    go_wp2_with fail
    refine (works_any _).mono ?_
    rintro e w3 ⟨rfl, hb3⟩
    go_wp2_with fail
    go_ret
    exact ⟨rfl, HB2.out.trans (hb3.mono HB2.out.size)⟩
  · have hlk : linkR A last = (last + 1, 0, last + 1, A ++ [⟨last + 1, [], []⟩]) := by unfold linkR; rw [if_neg hful]
    rw [hlk]
    rintro e w2 ⟨rfl, own2, he2, _, hb2, _⟩
    obtain ⟨f1, f2, flaw⟩ := fresh_law (find_last A last (fun x hx => (HRNG.out x hx).2)) rfl xs
    obtain ⟨A1, hA1⟩ : ∃ D, A ++ [(⟨last + 1, [], []⟩ : Ab)] = D := ⟨_, rfl⟩
    rw [hA1] at he2 f1 f2 flaw
    have l0 := HL0.out
    obtain ⟨id, hid⟩ : ∃ id, last + 1 = id := ⟨_, rfl⟩
    rw [hid] at he2 f1 f2 flaw
    have q1 : -9223372036854775808 ≤ id := by omega
    have q2 : id ≤ 9223372036854775807 := by omega
    obtain ⟨e1, he1⟩ : ∃ z : Int, (sendR A1 id 0 xs).1 = z := ⟨_, rfl⟩
    obtain ⟨A2, hA2⟩ : ∃ z, (sendR A1 id 0 xs).2 = z := ⟨_, rfl⟩
    rw [he1, hA2] at flaw
    rw [hA2] at f1 f2
    obtain ⟨e2, hee2⟩ : ∃ z : Int, (sendR A2 id 0 xs).1 = z := ⟨_, rfl⟩
    obtain ⟨A3, hA3⟩ : ∃ z, (sendR A2 id 0 xs).2 = z := ⟨_, rfl⟩
    rw [hee2, hA3] at flaw
    rw [hA3] at f2
    obtain ⟨x3, f2⟩ := f2
    rw [hxl] at flaw
    obtain ⟨ps, hps⟩ : ∃ z, (moveR A3 id 0 (bn : Int)).1 = z := ⟨_, rfl⟩
    obtain ⟨er3, her3⟩ : ∃ z, (moveR A3 id 0 (bn : Int)).2.1 = z := ⟨_, rfl⟩
    obtain ⟨A4, hA4⟩ : ∃ z, (moveR A3 id 0 (bn : Int)).2.2 = z := ⟨_, rfl⟩
    rw [hps, hA4] at flaw
    obtain ⟨qs, hqs⟩ : ∃ z, (moveR A4 id 0 0).1 = z := ⟨_, rfl⟩
    obtain ⟨er4, her4⟩ : ∃ z, (moveR A4 id 0 0).2.1 = z := ⟨_, rfl⟩
    obtain ⟨A5, hA5⟩ : ∃ z, (moveR A4 id 0 0).2.2 = z := ⟨_, rfl⟩
    rw [hqs] at flaw
    have HE := Lib.hid (And.intro he1 (And.intro hA2 (And.intro hee2 (And.intro hA3 (And.intro hps (And.intro her3 (And.intro hA4 (And.intro hqs (And.intro her4 hA5)))))))))
    have HFIND := Lib.hid f2
    have HLAW := Lib.hid flaw
    have HE2 := Lib.hid he2
    have HB2 : Hid (Below w.heap.size w w2) := HB1.out.trans hb2
    have HID := Lib.hid hid
    clear he1 hA2 hee2 hA3 hps her3 hA4 hqs her4 hA5 f1 f2 flaw he2 hb2 hlk hful hA1
    rw [HID.out]
    clear hid
    go_wp2_with fail
    refine (wide_any w2 bo bn bc xs (HIN.out w2 HB2.out) HY.out hbn).mono ?_
    rintro e w3 ⟨g, rfl, hg, hk3, hb3⟩
    have HE3 := Lib.hid (HE2.out.below hb3)
    have HB3 : Hid (Below w.heap.size w w3) := HB2.out.trans (hb3.mono HB2.out.size)
    have HK3 := Lib.hid hk3
    have HG2 : Hid (own2 g = (0, 9)) := HE2.out.new g hg
    have HWG : Hid (w.heap.size ≤ g) := Nat.le_trans HB2.out.size hg
    have HWSRC : Hid (∀ W, Blk W g 5 (xs ++ tri).toArray → Src W 1 (some ⟨g, 0, none⟩) bn xs) := fun W hk => by
      refine ⟨by omega, fun j u hj => ⟨g, 0, rfl, hk.lt, ?_⟩⟩
      rw [Nat.zero_add]
      refine (hk.cell j).trans ?_
      have := (List.getElem?_eq_some_iff.1 hj).1
      rw [List.getElem?_toArray, List.getElem?_append_left this]
      exact hj
    clear hk3 hb3 hg
    go_wp2_with fail
    refine (env_send w.heap.size w3 pb mb id A1 own2 id 0 (some ⟨g, 0, none⟩) bn (bn + 3) xs HE3.out q1 q2 (HWSRC.out _ HK3.out) HY.out (by omega)).mono ?_
    rw [HE.out.1, HE.out.2.1]
    rintro e w4 ⟨rfl, own4, he4, hf4, hb4, ho4⟩
    have HG4 : Hid (own4 g = (0, 9)) := (ho4 g HK3.out.lt).trans HG2.out
    have HK4 : Hid (Blk w4 g 5 (xs ++ tri).toArray) := HK3.out.fr hf4 (by unfold FP; rw [HG2.out]; simp)
    have HE4 := Lib.hid he4
    have HB4 : Hid (Below w.heap.size w w4) := HB3.out.trans hb4
    clear he4 hf4 hb4 ho4
    go_wp2_with fail
    refine (env_send w.heap.size w4 pb mb id A2 own4 id 0 (some ⟨g, 0, none⟩) bn (bn + 3) xs HE4.out q1 q2 (HWSRC.out _ HK4.out) HY.out (by omega)).mono ?_
    rw [HE.out.2.2.1, HE.out.2.2.2.1]
    rintro e w5 ⟨rfl, own5, he5, hf5, hb5, ho5⟩
    have HG5 : Hid (own5 g = (0, 9)) := (ho5 g HK4.out.lt).trans HG4.out
    have HK5 : Hid (Blk w5 g 5 (xs ++ tri).toArray) := HK4.out.fr hf5 (by unfold FP; rw [HG4.out]; simp)
    have HE5 := Lib.hid he5
    have HB5 : Hid (Below w.heap.size w w5) := HB4.out.trans hb5
    clear he5 hf5 hb5 ho5
    go_wp2_with fail
    refine (left_any w5 g bo bn bc xs HK5.out (HIN.out w5 HB5.out) HY.out hbn).mono ?_
    rintro e w6 ⟨rfl, hb6⟩
    have HK6 : Hid (Blk w6 g 5 (xs ++ tri).toArray) := HK5.out.below hb6 HK5.out.lt
    have HE6 := Lib.hid (HE5.out.below hb6)
    have HB6 : Hid (Below w.heap.size w w6) := HB5.out.trans (hb6.mono HB5.out.size)
    clear hb6
    have HTRI : Hid (AllB tri) := fun v hv => ⟨7, by unfold tri at hv; simp at hv; exact hv⟩
    have HR6 : Hid (Row w.heap.size w6 5 1 (some ⟨g, 0, none⟩) bn (bn + 3) xs) := by
      refine ⟨by omega, Or.inr ⟨g, bn + 3, _, rfl, HWG.out, HK6.out, by omega, by unfold maxLen; omega, ?_, ?_⟩⟩
      · simp [tri_len]; omega
      · show (xs ++ tri).take (bn * 1) = xs
        rw [Nat.mul_one, ← hxl, List.take_left]
    have HFU6 : Hid (Full w6 (some ⟨g, 0, none⟩)) := fun g' hg' => by
      injection hg' with hg'
      injection hg' with hg'
      subst hg'
      exact ⟨_, HK6.out, by simpa using HY.out.append HTRI.out⟩
    go_wp2_with fail
    refine (spoil_any w.heap.size w6 (some ⟨g, 0, none⟩) bn (bn + 3) xs HR6.out HFU6.out).mono ?_
    rintro e w7 ⟨rfl, hf7⟩
    have HE7 : Hid (Env w.heap.size w7 pb mb id A3 own5) := HE6.out.law hf7 (fun k hk => by obtain ⟨a, ha, rfl⟩ := hk; injection ha with ha; subst ha; exact HG5.out)
    have HB7 : Hid (Below w.heap.size w w7) := HB6.out.trans (HR6.out.frB hf7 HB6.out.size)
    clear hf7
    go_wp2_with fail
    refine (env_moveF w.heap.size w7 pb mb id A3 own5 id (bn : Int) x3 HE7.out HFIND.out q1 q2).mono ?_
    have hplen : ps.length ≤ 4194304 := by rw [← HE.out.2.2.2.2.1]; exact moveR_len HE7.out.net id 0 bn
    unfold MoveEF
    rw [HE.out.2.2.2.2.1, HE.out.2.2.2.2.2.1, HE.out.2.2.2.2.2.2.1]
    rintro e w8 ⟨ro, rc, own8, rfl, hr8, hy8, hu8, he8, _, hb8, _, hfu8⟩
    have HR8 := Lib.hid hr8
    have HY8 := Lib.hid hy8
    have HU8 := Lib.hid hu8
    have HE8 := Lib.hid he8
    have HFU8 := Lib.hid hfu8
    have HB8 : Hid (Below w.heap.size w w8) := HB7.out.trans hb8
    clear hr8 hy8 hu8 he8 hb8 hfu8
    go_wp2_with fail
    refine (copy_any w8 ro ps.length rc ps HR8.out.src HY8.out (by omega)).mono ?_
    rintro e w9 ⟨co, cc, rfl, hr9, hb9⟩
    have HR9 := Lib.hid hr9
    have HP9 : Hid (Row w7.heap.size w9 5 1 ro ps.length rc ps) := HR8.out.fr (Fr.of_below (T := none0) hb9) (fun _ _ h => h)
    have HFU9 : Hid (Full w9 ro) := HFU8.out.fr (Fr.of_below (T := none0) hb9) (fun _ _ h => h)
    have HE9 := Lib.hid (HE8.out.below hb9)
    have HB9 : Hid (Below w.heap.size w w9) := HB8.out.trans (hb9.mono HB8.out.size)
    have HCO : Hid (∀ k, rowOf co k → w8.heap.size ≤ k) := fun k hk => (hr9.tag k (row_lt hr9 k hk) hk).1
    clear hr9 hb9
    go_wp2_with fail
    refine (spoil_any w7.heap.size w9 ro ps.length rc ps HP9.out HFU9.out).mono ?_
    rintro e w10 ⟨rfl, hf10⟩
    have HE10 : Hid (Env w.heap.size w10 pb mb id A4 own8) := HE9.out.law hf10 HU8.out
    have HB10 : Hid (Below w.heap.size w w10) := by
      have h5 := HP9.out.base HB7.out.size
      exact HB9.out.trans (h5.frB hf10 HB9.out.size)
    have HC10 : Hid (Row w8.heap.size w10 5 1 co ps.length cc ps) := HR9.out.fr hf10 (fun k hk h => by
      have h1 := HCO.out k hk
      have h2 := row_lt HR8.out k h
      omega)
    clear hf10
    go_wp2_with fail
    refine (env_move w.heap.size w10 pb mb id A4 own8 id 0 0 HE10.out q1 q2).mono ?_
    unfold MoveE
    rw [HE.out.2.2.2.2.2.2.2.1, HE.out.2.2.2.2.2.2.2.2.1]
    rintro e w11 ⟨qo, qc, own11, rfl, hr11, hy11, _, _, hf11, hb11, _⟩
    have HR11 := Lib.hid hr11
    have HB11 : Hid (Below w.heap.size w w11) := HB10.out.trans hb11
    have HC11 : Hid (Row w8.heap.size w11 5 1 co ps.length cc ps) := HC10.out.step (Out.new HE8.out HCO.out) hf11
    clear hr11 hy11 hf11 hb11
    have HWORKS : Hid (∀ W, Below w.heap.size w W → Calls Try.prog 12 #[] W fun e w' => e = .returned (.bool true) ∧ Below w.heap.size w w') := fun W hW => (works_any W).mono fun _ _ ⟨a, b⟩ => ⟨a, hW.trans (b.mono hW.size)⟩
    obtain ⟨np, hnp⟩ : ∃ np, ps.length = np := ⟨_, rfl⟩
    obtain ⟨nq, hnq⟩ : ∃ nq, qs.length = nq := ⟨_, rfl⟩
    rw [hnp] at HC11 hplen ⊢
    rw [hnq] at HR11 ⊢
    by_cases c1 : e1 = 0
    · by_cases c2 : e2 = 0
      · by_cases c3 : bn = 0
        · have b1 : (e1 != 0) = false := by simpa using c1
          have b2 : (e2 != 0) = false := by simpa using c2
          have b3 : ((bn : Int) == 0) = true := by simpa using c3
          clear c1 c2 hnp hnq
          go_wp2_with fail
          refine (HWORKS.out _ HB11.out).mono ?_
          rintro e w12 ⟨rfl, hb12⟩
          have HB12 := Lib.hid hb12
          clear hb12
          go_wp2_with fail
          go_ret
          exact ⟨rfl, HB12.out⟩
        · obtain ⟨hp, hq⟩ := HLAW.out c1 c2 (by omega)
          have e3 : np = bn := by rw [← hnp, hp]; exact hxl
          have e4 : nq = bn := by rw [← hnq, hq]; exact hxl
          subst e3
          rw [e4] at HR11 ⊢
          subst hp
          subst hq
          have b1 : (e1 != 0) = false := by simpa using c1
          have b2 : (e2 != 0) = false := by simpa using c2
          have b3 : ((np : Int) == 0) = false := by simp; omega
          clear c1 c2 hnp hnq e4
          go_wp2_with fail
          refine (same_any w11 co bo np cc bc _ HC11.out.src (HIN.out _ HB11.out) HY.out (by omega)).mono ?_
          rintro e w12 ⟨rfl, hb12⟩
          have HR12 : Hid (Row w10.heap.size w12 5 1 qo np qc _) := HR11.out.fr (Fr.of_below (T := none0) hb12) (fun _ _ h => h)
          have HB12 : Hid (Below w.heap.size w w12) := HB11.out.trans (hb12.mono HB11.out.size)
          clear hb12
          go_wp2_with fail
          refine (same_any w12 qo bo np qc bc _ HR12.out.src (HIN.out _ HB12.out) HY.out (by omega)).mono ?_
          rintro e w13 ⟨rfl, hb13⟩
          have HB13 : Hid (Below w.heap.size w w13) := HB12.out.trans (hb13.mono HB12.out.size)
          clear hb13
          go_wp2_with fail
          refine (HWORKS.out _ HB13.out).mono ?_
          rintro e w14 ⟨rfl, hb14⟩
          have HB14 := Lib.hid hb14
          clear hb14
          go_wp2_with fail
          go_ret
          exact ⟨rfl, HB14.out⟩
      · have b1 : (e1 != 0) = false := by simpa using c1
        have b2 : (e2 != 0) = true := by simpa using c2
        clear c1 c2 hnp hnq
        go_wp2_with fail
        refine (HWORKS.out _ HB11.out).mono ?_
        rintro e w12 ⟨rfl, hb12⟩
        have HB12 := Lib.hid hb12
        clear hb12
        go_wp2_with fail
        go_ret
        exact ⟨rfl, HB12.out⟩
    · have b1 : (e1 != 0) = true := by simpa using c1
      clear c1 hnp hnq
      go_wp2_with fail
      refine (HWORKS.out _ HB11.out).mono ?_
      rintro e w12 ⟨rfl, hb12⟩
      have HB12 := Lib.hid hb12
      clear hb12
      go_wp2_with fail
      go_ret
      exact ⟨rfl, HB12.out⟩
end Go.Proofs.Ytmgdbilmfialkaa
