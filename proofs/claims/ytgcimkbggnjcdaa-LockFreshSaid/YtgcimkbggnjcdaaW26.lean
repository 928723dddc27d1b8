/- LockBack, by a walk over the contracts. -/
import Derived.Test.YtgcimkbggnjcdaaW22
import Derived.Test.YtgcimkbggnjcdaaW24
namespace Go.Proofs.Ytgcimkbggnjcdaa
open Go.RowKit Go.WideShapes

theorem take1_cases (S : List Lk) (op : Int) (x : Lk) : (∃ e : Int, e ≠ 0 ∧ takeR S op (fun _ => x) 1 = (e, S)) ∨ takeR S op (fun _ => x) 1 = (0, S ++ [⟨op, x.a, x.n, x.mode⟩]) := by
  unfold takeR
  split
  · unfold addFrom
    split
    · exact Or.inl ⟨12, by decide, rfl⟩
    · split
      · exact Or.inl ⟨3, by decide, rfl⟩
      · exact Or.inr rfl
  · exact Or.inl ⟨2, by decide, rfl⟩
theorem addFrom_cases (op : Int) (L : Nat → Lk) (S : List Lk) : ∀ (m k : Nat) (cur : List Lk), (addFrom op L S m k cur).1 = 0 ∨ ((addFrom op L S m k cur).1 ≠ 0 ∧ (addFrom op L S m k cur).2 = S)
  | 0, _, _ => Or.inl rfl
  | m + 1, k, cur => by
    unfold addFrom
    split
    · exact Or.inr ⟨(by decide : (12 : Int) ≠ 0), rfl⟩
    · split
      · exact Or.inr ⟨(by decide : (3 : Int) ≠ 0), rfl⟩
      · exact addFrom_cases op L S m (k + 1) _
theorem take_cases (S : List Lk) (op : Int) (L : Nat → Lk) (n : Nat) : (takeR S op L n).1 = 0 ∨ ((takeR S op L n).1 ≠ 0 ∧ (takeR S op L n).2 = S) := by
  unfold takeR
  split
  · exact addFrom_cases op L S n 0 S
  · exact Or.inr ⟨(by decide : (2 : Int) ≠ 0), rfl⟩
theorem drop_added (S : List Lk) (op : Int) (a n m : Nat) : ∃ T, dropR (S ++ [⟨op, a, n, m⟩]) op a n = (0, T) ∧ (S.any (isIt op a n) = false → T = S) := by
  unfold dropR
  rw [List.findIdx?_append]
  cases h : S.findIdx? (isIt op a n) with
  | some k =>
    refine ⟨_, rfl, fun hq => ?_⟩
    rw [List.any_eq_false] at hq
    obtain ⟨hl, hp, _⟩ := List.findIdx?_eq_some_iff_getElem.1 h
    exact absurd hp (hq _ (List.getElem_mem hl))
  | none =>
    have h1 : isIt op a n ⟨op, a, n, m⟩ = true := by unfold isIt; simp
    refine ⟨S, ?_, fun _ => rfl⟩
    simp only [List.findIdx?_cons, h1, if_true, Option.map_some, Option.or_some, Option.getD_none]
    show ((0 : Int), (S ++ [(⟨op, a, n, m⟩ : Lk)]).eraseIdx (0 + S.length)) = _
    rw [Nat.zero_add, List.eraseIdx_append_of_length_le (Nat.le_refl _)]
    simp

/-- A row of the law's own is none of the table's. -/
def Ap (ro : Option Addr) (pb : Nat) (qo : Option Addr) : Prop := ∀ k, rowOf ro k → ¬ Tof pb qo k
theorem ap_first {B : Nat} {w1 w2 : World} {pb : Nat} {S : List Lk} {qo ro : Option Addr} {qc n c : Nat} {xs : List Value} (ht : Tb B w1 pb S qo qc) (hr : Row w1.heap.size w2 34 4 ro n c xs) : Ap ro pb qo := by
  intro k hk hk2
  have h1 := ht.tof_lt k hk2
  have h2 : k < w2.heap.size := by obtain ⟨a, rfl, rfl⟩ := hk; exact hr.lt
  have := (hr.tag k h2 hk).1
  omega
theorem Ap.next {C : Nat} {w : World} {pb : Nat} {qo qo' ro : Option Addr} {n c : Nat} {xs : List Value} (h : Ap ro pb qo) (hr : Row C w 34 4 ro n c xs) (hs : Sub qo' qo w.heap.size) : Ap ro pb qo' := by
  rintro k hk (e | e)
  · exact h k hk (Or.inl e)
  · rcases hs k e with e | e
    · exact h k hk (Or.inr e)
    · obtain ⟨a, rfl, rfl⟩ := hk
      have := hr.lt
      omega

set_option maxRecDepth 100000 in
set_option maxHeartbeats 4000000 in
theorem LockBack_walk (ao : Option Addr) (n c : Nat) (A : Nat → ActV) (op : Int) (a m md : Nat) (mo : Option Addr) (mn mc : Nat) (L : Nat → Lk) (w : World) (hA : Acts w ao n A) (hn : n ≤ 9223372036854775807) (_ : -9223372036854775808 ≤ op) (_ : op ≤ 9223372036854775807) (_ : a < 18446744073709551616) (_ : m < 18446744073709551616) (_ : md < 65536) (hL : Lks w mo mn L) (hmn : mn ≤ 9223372036854775807) :
    Calls Try.prog 6 #[.slice ao n c, .int .i64 op, .int .u64 (a : Int), .int .u64 (m : Int), .int .u16 (md : Int), .slice mo mn mc] w fun e w' => e = .returned (.bool true) ∧ Below w.heap.size w w' := by
  have HL := Lib.hid hL
  clear hL
  go_enter Try.func6, Try.ntmps6
  go_wp2_with fail
  refine (played_any w ao n c A hA hn).mono ?_
  rintro e w1 ⟨pb, rb, S, qo, qc, bo, d, rfl, hh, hi, hb⟩
  have HB1 := Lib.hid hb
  have HT1 := Lib.hid hh.t
  have hS := hh.t.len
  clear hb hh hA hi
  go_wp2_with fail
  refine (all_any w.heap.size w1 pb S qo qc HT1.out).mono ?_
  rintro e w2 ⟨ro, rc, rfl, hr2, hb2⟩
  have HB2 : Hid (Below w.heap.size w w2) := HB1.out.trans (hb2.mono HB1.out.size)
  have HT2 := Lib.hid (HT1.out.below hb2)
  have HR2 := Lib.hid hr2
  have HA2 := Lib.hid (ap_first HT1.out hr2)
  have hal : Below w2.heap.size w2 (w2.alloc (.cells #[.int .i64 0, .int .u64 (a : Int), .int .u64 (m : Int), .int .u16 (md : Int)] 34)) := (Below.refl _ _).alloc (Nat.le_refl _) _
  have HK := Lib.hid (lks_new HT2.out 0 a m md)
  have HB3 : Hid (Below w.heap.size w (w2.alloc (.cells #[.int .i64 0, .int .u64 (a : Int), .int .u64 (m : Int), .int .u16 (md : Int)] 34))) := HB2.out.trans (hal.mono HB2.out.size)
  have HT3 := Lib.hid (HT2.out.below hal)
  have HR3 : Hid (Row w1.heap.size (w2.alloc (.cells #[.int .i64 0, .int .u64 (a : Int), .int .u64 (m : Int), .int .u16 (md : Int)] 34)) 34 4 ro S.length rc (flat S)) := HR2.out.fr (Fr.of_below (T := none0) hal) (fun _ _ h => h)
  clear hr2 hb2 hal
  go_wp2_with fail
  generalize w2.alloc (.cells #[.int .i64 0, .int .u64 (a : Int), .int .u64 (m : Int), .int .u16 (md : Int)] 34) = w3 at *
  refine (take_any w.heap.size w3 pb S qo qc op (some ⟨w2.heap.size, 0, none⟩) 1 1 (fun _ => ⟨0, a, m, md⟩) HT3.out HB3.out.size HK.out (by omega)).mono ?_
  rintro e w4 ⟨rfl, qo4, qc4, ht4, hf4, hs4⟩
  have HA4 := Lib.hid (HA2.out.next HR3.out hs4)
  have HB4 : Hid (Below w.heap.size w w4) := HB3.out.trans (HT3.out.frB hf4 HB3.out.size)
  have HR4 : Hid (Row w1.heap.size w4 34 4 ro S.length rc (flat S)) := HR3.out.fr hf4 HA2.out
  clear hf4 HK HR3 HT3 HR2 hs4 HA2
  rcases take1_cases S op ⟨0, a, m, md⟩ with ⟨er, her, hq⟩ | hq
  · rw [hq] at ht4
    rw [hq]
    dsimp only at ht4 ⊢
    have HT4 := Lib.hid ht4
    have e0 : (er == 0) = false := by simpa using her
    clear ht4 hq her
    go_wp2_with fail
    refine (all_any w.heap.size w4 pb S qo4 qc4 HT4.out).mono ?_
    rintro e w5 ⟨uo, uc, rfl, hr5, hb5⟩
    have HB5 : Hid (Below w.heap.size w w5) := HB4.out.trans (hb5.mono HB4.out.size)
    have HT5 := Lib.hid (HT4.out.below hb5)
    have HR5 : Hid (Row w1.heap.size w5 34 4 ro S.length rc (flat S)) := HR4.out.fr (Fr.of_below (T := none0) hb5) (fun _ _ h => h)
    have HU5 := Lib.hid hr5
    clear hr5 hb5
    go_wp2_with fail
    refine (locks_same _ _ w5 uo ro uc rc S HU5.out HR5.out (by omega)).mono ?_
    rintro e w6 ⟨rfl, hb6⟩
    have HB6 : Hid (Below w.heap.size w w6) := HB5.out.trans (hb6.mono HB5.out.size)
    have HT6 := Lib.hid (HT5.out.below hb6)
    have HR6 : Hid (Row w1.heap.size w6 34 4 ro S.length rc (flat S)) := HR5.out.fr (Fr.of_below (T := none0) hb6) (fun _ _ h => h)
    clear hb6
    go_wp2_with fail
    refine (take_any w.heap.size w6 pb S qo4 qc4 op mo mn mc L HT6.out HB6.out.size (fun W hf => HL.out.below (Nat.le_refl _) (HB6.out.trans (HT6.out.frB hf HB6.out.size))) hmn).mono ?_
    rintro e w7 ⟨rfl, qo7, qc7, ht7, hf7, _⟩
    have HB7 : Hid (Below w.heap.size w w7) := HB6.out.trans (HT6.out.frB hf7 HB6.out.size)
    have HR7 : Hid (Row w1.heap.size w7 34 4 ro S.length rc (flat S)) := HR6.out.fr hf7 HA4.out
    clear hf7
    rcases take_cases S op L mn with hq | ⟨hq, hq2⟩
    · rw [hq]
      clear hq ht7
      go_wp2_with fail
      refine (works_any _).mono ?_
      rintro e w10 ⟨rfl, hb10⟩
      go_wp2_with fail
      go_ret
      exact ⟨rfl, HB7.out.trans (hb10.mono HB7.out.size)⟩
    · rw [hq2] at ht7
      obtain ⟨er2, her2⟩ : ∃ z, (takeR S op L mn).1 = z := ⟨_, rfl⟩
      rw [her2] at hq ⊢
      have e02 : (er2 != 0) = true := by simpa using hq
      have HT7 := Lib.hid ht7
      clear ht7 hq hq2 her2
      go_wp2_with fail
      refine (all_any w.heap.size w7 pb S qo7 qc7 HT7.out).mono ?_
      rintro e w8 ⟨vo, vc, rfl, hr8, hb8⟩
      have HB8 : Hid (Below w.heap.size w w8) := HB7.out.trans (hb8.mono HB7.out.size)
      have HR8 : Hid (Row w1.heap.size w8 34 4 ro S.length rc (flat S)) := HR7.out.fr (Fr.of_below (T := none0) hb8) (fun _ _ h => h)
      have HU8 := Lib.hid hr8
      clear hr8 hb8
      go_wp2_with fail
      refine (locks_same _ _ w8 vo ro vc rc S HU8.out HR8.out (by omega)).mono ?_
      rintro e w9 ⟨rfl, hb9⟩
      have HB9 : Hid (Below w.heap.size w w9) := HB8.out.trans (hb9.mono HB8.out.size)
      clear hb9
      go_wp2_with fail
      refine (works_any _).mono ?_
      rintro e w10 ⟨rfl, hb10⟩
      go_wp2_with fail
      go_ret
      exact ⟨rfl, HB9.out.trans (hb10.mono HB9.out.size)⟩
  · rw [hq] at ht4
    rw [hq]
    dsimp only at ht4 ⊢
    obtain ⟨T, hT, hT2⟩ := drop_added S op a m md
    have HD := Lib.hid hT
    have HD2 := Lib.hid hT2
    clear hT hT2 hq
    have hlen : (S ++ [(⟨op, a, m, md⟩ : Lk)]).length = S.length + 1 := by simp
    have hget : (S ++ [(⟨op, a, m, md⟩ : Lk)])[S.length]? = some ⟨op, a, m, md⟩ := by simp
    generalize S ++ [(⟨op, a, m, md⟩ : Lk)] = S2 at *
    have HT4 := Lib.hid ht4
    have HLEN := Lib.hid hlen
    have HGET := Lib.hid hget
    clear ht4 hlen hget
    go_wp2_with fail
    refine (all_any w.heap.size w4 pb S2 qo4 qc4 HT4.out).mono ?_
    rintro e w5 ⟨uo, uc, rfl, hr5, hb5⟩
    have HB5 : Hid (Below w.heap.size w w5) := HB4.out.trans (hb5.mono HB4.out.size)
    have HT5 := Lib.hid (HT4.out.below hb5)
    have HR5 : Hid (Row w1.heap.size w5 34 4 ro S.length rc (flat S)) := HR4.out.fr (Fr.of_below (T := none0) hb5) (fun _ _ h => h)
    obtain ⟨g5, rfl⟩ := hr5.form (by have := HLEN.out; omega)
    obtain ⟨d0, d1, d2, d3⟩ := row_cells hr5 HGET.out
    dsimp only at d0 d1 d2 d3
    have q1 : (S2.length : Int) = (S.length : Int) + 1 := by have := HLEN.out; omega
    rw [HLEN.out]
    clear hr5 hb5 HGET q1
    go_wp2_with fail
    clear d0 d1 d2 d3
    go_loop [19, 20] (fun s19 s20 => ∃ (i : Nat) (f : Bool), i ≤ S.length ∧ s20 = .int .i64 i ∧ s19 = .bool f ∧ Hid (f = !((S.take i).any (isIt op a m)))) (fun _ s => S.length - (intOf s).toNat)
    case atStart => exact ⟨0, true, Nat.zero_le _, rfl, rfl, rfl⟩
    case round =>
      obtain ⟨i, f, hi, rfl, rfl, hf⟩ := hrel
      by_cases hlt : i < S.length
      · obtain ⟨g, rfl⟩ := HR5.out.form (by omega)
        have hi2 : S[i]? = some S[i] := List.getElem?_eq_getElem hlt
        obtain ⟨d0, d1, d2, d3⟩ := row_cells HR5.out hi2
        have HS := Lib.hid (any_step (p := isIt op a m) hi2)
        clear hi2
        have HF := hf
        clear hf
        generalize S[i] = x at *
        obtain ⟨xo, xa, xn, xm⟩ := x
        dsimp only at d0 d1 d2 d3
        cases f
        · have HF2 : Hid (false = !((S.take (i + 1)).any (isIt op a m))) := by
            show _ = _
            rw [HS.out, Bool.not_or, ← HF.out]; rfl
          go_wp2_with fail
          go_round
          case rel => exact ⟨i + 1, false, by omega, by go_num, rfl, HF2.out⟩
          case measure => simp [intOf]; omega
        · have HF2 : Hid ((!isIt op a m ⟨xo, xa, xn, xm⟩) = !((S.take (i + 1)).any (isIt op a m))) := by
            show _ = _
            rw [HS.out, Bool.not_or, ← HF.out, Bool.true_and]
          by_cases h1 : xo = op
          · by_cases h2 : xa = a
            · by_cases h3 : xn = m
              · have HF3 : Hid (false = !((S.take (i + 1)).any (isIt op a m))) := by show _ = _; rw [← HF2.out]; unfold isIt; simp [h1, h2, h3]
                clear HF HF2 HS
                subst h1 h2 h3
                go_wp2_with fail
                go_round
                case rel => exact ⟨i + 1, false, by omega, by go_num, rfl, HF3.out⟩
                case measure => simp [intOf]; omega
              · have HF3 : Hid (true = !((S.take (i + 1)).any (isIt op a m))) := by show _ = _; rw [← HF2.out]; unfold isIt; simp [h3]
                have z3 : ((xn : Int) != (m : Int)) = true := by simp only [bne_iff_ne, ne_eq]; omega
                clear HF HF2 HS h3
                subst h1 h2
                go_wp2_with fail
                go_round
                case rel => exact ⟨i + 1, true, by omega, by go_num, rfl, HF3.out⟩
                case measure => simp [intOf]; omega
            · have HF3 : Hid (true = !((S.take (i + 1)).any (isIt op a m))) := by show _ = _; rw [← HF2.out]; unfold isIt; simp [h2]
              have z2 : ((xa : Int) != (a : Int)) = true := by simp only [bne_iff_ne, ne_eq]; omega
              clear HF HF2 HS h2
              subst h1
              go_wp2_with fail
              go_round
              case rel => exact ⟨i + 1, true, by omega, by go_num, rfl, HF3.out⟩
              case measure => simp [intOf]; omega
          · have HF3 : Hid (true = !((S.take (i + 1)).any (isIt op a m))) := by show _ = _; rw [← HF2.out]; unfold isIt; simp [h1]
            have z1 : (xo != op) = true := by simpa using h1
            clear HF HF2 HS h1
            go_wp2_with fail
            go_round
            case rel => exact ⟨i + 1, true, by omega, by go_num, rfl, HF3.out⟩
            case measure => simp [intOf]; omega
      · have hie : i = S.length := by omega
        have hf' := hf.out
        rw [hie, List.take_length] at hf'
        have HF := Lib.hid hf'
        clear hf hf' hie
        go_wp2_with fail
        refine (drop_any w.heap.size w5 pb S2 qo4 qc4 op a m HT5.out).mono ?_
        rw [HD.out]
        rintro e w6 ⟨rfl, qo6, qc6, ht6, hf6, _⟩
        have HB6 : Hid (Below w.heap.size w w6) := HB5.out.trans (HT5.out.frB hf6 HB5.out.size)
        have HR6 : Hid (Row w1.heap.size w6 34 4 ro S.length rc (flat S)) := HR5.out.fr hf6 HA4.out
        dsimp only at ht6
        have HT6 := Lib.hid ht6
        clear ht6 hf6
        cases f
        · go_wp2_with fail
          refine (works_any _).mono ?_
          rintro e w10 ⟨rfl, hb10⟩
          go_wp2_with fail
          go_ret
          exact ⟨rfl, HB6.out.trans (hb10.mono HB6.out.size)⟩
        · have hTS : T = S := HD2.out (by have := HF.out; simpa using this)
          subst hTS
          go_wp2_with fail
          refine (all_any w.heap.size w6 pb T qo6 qc6 HT6.out).mono ?_
          rintro e w8 ⟨vo, vc, rfl, hr8, hb8⟩
          have HB8 : Hid (Below w.heap.size w w8) := HB6.out.trans (hb8.mono HB6.out.size)
          have HR8 : Hid (Row w1.heap.size w8 34 4 ro T.length rc (flat T)) := HR6.out.fr (Fr.of_below (T := none0) hb8) (fun _ _ h => h)
          have HU8 := Lib.hid hr8
          clear hr8 hb8
          go_wp2_with fail
          refine (locks_same _ _ w8 vo ro vc rc T HU8.out HR8.out (by omega)).mono ?_
          rintro e w9 ⟨rfl, hb9⟩
          have HB9 : Hid (Below w.heap.size w w9) := HB8.out.trans (hb9.mono HB8.out.size)
          clear hb9
          go_wp2_with fail
          refine (works_any _).mono ?_
          rintro e w10 ⟨rfl, hb10⟩
          go_wp2_with fail
          go_ret
          exact ⟨rfl, HB9.out.trans (hb10.mono HB9.out.size)⟩
end Go.Proofs.Ytgcimkbggnjcdaa
