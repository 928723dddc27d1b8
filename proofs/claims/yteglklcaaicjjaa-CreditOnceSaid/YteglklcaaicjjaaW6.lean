/- The law CreditOnce, by a walk over the contracts. -/
import Derived.Test.YteglklcaaicjjaaW5
namespace Go.Proofs.Yteglklcaaicjjaa
open Go.RowKit Go.Maps

/-- 2100 times false. -/
def zeros : Array Value := Array.replicate 2100 (.bool false)
theorem zero35 (w : World) : (zeroValue 35).run Try.prog w = .ok (.agg zeros) w := by kernel_rfl

/-- The array of what was taken: number j stands there as f j. -/
def Tak (w : World) (tb : Nat) (f : Nat → Bool) : Prop := ∃ cs, Blk w tb 35 cs ∧ cs.size = 2100 ∧ ∀ j, j < 2100 → cs[j]? = some (.bool (f j))
section
variable {w w' : World} {tb : Nat} {f : Nat → Bool}
theorem Tak.made (w : World) : Tak (w.alloc (.cells zeros 35)) w.heap.size (fun _ => false) := ⟨zeros, Blk.new _ _ _, by unfold zeros; simp, fun j hj => by unfold zeros; simp [hj]⟩
theorem Tak.fr {T : Nat → Prop} (h : Tak w tb f) (hf : Fr T w w') (ht : ¬ T tb) : Tak w' tb f := by obtain ⟨cs, h1, h2⟩ := h; exact ⟨cs, h1.fr hf ht, h2⟩
theorem Tak.cell (h : Tak w tb f) {j : Nat} (hj : j < 2100) : w.cell? ⟨tb, j, none⟩ = some (.bool (f j)) := by obtain ⟨cs, h1, h2, h3⟩ := h; exact (h1.cell j).trans (h3 j hj)
theorem Tak.frozen (h : Tak w tb f) (j : Nat) : w.frozen? ⟨tb, j, none⟩ = false := by obtain ⟨cs, h1, _⟩ := h; exact h1.frozen j
theorem Tak.lt (h : Tak w tb f) : tb < w.heap.size := by obtain ⟨cs, h1, _⟩ := h; exact h1.lt
theorem Tak.set_ (h : Tak w tb f) (k : Nat) : Tak (w.setCell ⟨tb, k, none⟩ (.bool true)) tb (fun x => if x = k then true else f x) := by
  obtain ⟨cs, h1, h2, h3⟩ := h
  refine ⟨_, h1.set_ k _, by simpa using h2, fun j hj => ?_⟩
  rw [Array.getElem?_setIfInBounds]
  by_cases e : k = j
  · subst e
    simp [h2, hj]
  · rw [if_neg e, h3 j hj]
    have e2 : ¬ j = k := fun e' => e e'.symm
    simp [e2]
end
/-- What is marked was given, and is not there any more. -/
def Marks (f : Nat → Bool) (next : Nat) (S : List Nat) : Prop := ∀ j, f j = true → j < next ∧ j ∉ S

theorem takeE_cases (S : List Nat) (id : Nat) (c : Int) : takeE S id c = 0 ∨ takeE S id c = 2 ∨ takeE S id c = 17 := by
  unfold takeE
  split
  · omega
  · split
    · omega
    · split <;> omega
/-- f, and the numbers id .. id + n - 1 beside. -/
def mark (f : Nat → Bool) (id n : Nat) (x : Nat) : Bool := f x || (decide (id ≤ x) && decide (x < id + n))
theorem mark_zero (f : Nat → Bool) (id : Nat) : mark f id 0 = f := by
  funext x
  unfold mark
  have : (decide (id ≤ x) && decide (x < id + 0)) = false := by
    simp
  rw [this, Bool.or_false]
theorem mark_succ (f : Nat → Bool) (id n : Nat) : (fun x => if x = id + n then true else mark f id n x) = mark f id (n + 1) := by
  funext x
  unfold mark
  by_cases h : x = id + n
  · subst h
    simp
  · rw [if_neg h]
    have : decide (x < id + (n + 1)) = decide (x < id + n) := by
      congr 1
      exact propext ⟨fun _ => by omega, fun _ => by omega⟩
    rw [this]

set_option maxRecDepth 100000 in
set_option maxHeartbeats 4000000 in
theorem CreditOnce_walk (most : Int) (ao : Option Addr) (n c : Nat) (A : Nat → ActV) (w : World) (_ : -9223372036854775808 ≤ most) (_ : most ≤ 9223372036854775807) (hA : Acts w ao n A) (_ : n ≤ 9223372036854775807) :
    Calls Try.prog 4 #[.int .i64 most, .slice ao n c] w fun e w' => e = .returned (.bool true) ∧ Below w.heap.size w w' := by
  by_cases hm : most < 1 ∨ 64 < most
  · go_enter Try.func4, Try.ntmps4
    go_wp2_with fail
    refine (new_bad most _ hm).mono ?_
    rintro e w1 ⟨rfl, rfl⟩
    go_wp2_with (first | (go_at_call 11; refine (works_any _).mono ?_; rintro e w2 ⟨rfl, hb⟩))
    go_ret
    exact ⟨rfl, hb⟩
  · have hz := zero35
    go_enter Try.func4, Try.ntmps4
    go_wp2_with fail
    refine (new_good most _ (by omega) (by omega)).mono ?_
    rintro e w1 ⟨pb, mb, rfl, hw1, hpb, hmb, hb1⟩
    clear hm
    go_wp2_with fail
    clear hz
    have hpn : pb ≠ w1.heap.size := by have := hw1.blk.lt; omega
    have hmn : mb ≠ w1.heap.size := by have := hw1.map.lt; omega
    have htb : w.heap.size ≤ w1.heap.size := hb1.size
    have HW : Hid (Win (w1.alloc (.cells zeros 35)) pb mb most 1 [0]) := hw1.fr ((Fr.refl none0 _).alloc _) (fun h => h) (fun h => h)
    have HT : Hid (Tak (w1.alloc (.cells zeros 35)) w1.heap.size (fun _ => false)) := Tak.made w1
    have HB : Hid (Below w.heap.size w (w1.alloc (.cells zeros 35))) := hb1.alloc htb _
    clear hw1 hb1
    have hpt : ¬ pb = w1.heap.size := hpn
    have hmt : ¬ mb = w1.heap.size := hmn
    generalize w1.alloc (.cells zeros 35) = w2 at *
    generalize w1.heap.size = tb at *
    go_loopw [4, 8, 9, 10] (fun s4 s8 _ _ wr => ∃ (k next : Nat) (S : List Nat) (f : Nat → Bool), k ≤ n ∧ s4 = .bool false ∧ s8 = .int .i64 k ∧ k ≤ 100 ∧ next ≤ 1 + 64 * k ∧ Hid (Win wr pb mb most next S) ∧ Hid (Below w.heap.size w wr) ∧ Hid (Tak wr tb f) ∧ Hid (Marks f next S)) (fun _ s8 _ _ _ => n - (intOf s8).toNat)
    case atStart => exact ⟨0, 1, [0], fun _ => false, Nat.zero_le _, rfl, rfl, by omega, by omega, HW, HB, HT, fun j hj => by cases hj⟩
    case round =>
      obtain ⟨k, next, S, f, hk, rfl, rfl, hk1, hnext, hw, hb, ht, hmk⟩ := hrel
      by_cases hlt : k < n ∧ k < 100
      · obtain ⟨hl1, hl2⟩ := hlt
        obtain ⟨b, o, rfl, hbl, ha0, hok⟩ := hA k hl1
        have ha := ha0.below hb.out hbl
        have j2 : Hid (w.cell? ⟨b, o + k * 4 + 2, none⟩ = some (.int .u64 ((A k).id : Int))) := ha0.k2
        have j3 : Hid (w.cell? ⟨b, o + k * 4 + 3, none⟩ = some (.int .i64 (A k).charge)) := ha0.k3
        have k0 := ha.k0
        have k1 := ha.k1
        have k2 := ha.k2
        have k3 := ha.k3
        obtain ⟨o1, o2, o3, o4, o5⟩ := hok
        clear ha ha0
        generalize A k = q at *
        obtain ⟨g, wt, id, ch⟩ := q
        dsimp only at k0 k1 k2 k3 o1 o2 o3 o4 o5 j2 j3
        cases g
        · -- Take
          go_wp2_with fail
          have hw' : Hid (Win wr.drew pb mb most next S) := hw.out.drew
          have hb' : Hid (Below w.heap.size w wr.drew) := hb.out.drew
          have ht' : Hid (Tak wr.drew tb f) := ht.out
          obtain ⟨ee, hee⟩ : ∃ ee, takeE S id ch = ee := ⟨_, rfl⟩
          obtain ⟨S2, hS2⟩ : ∃ S2, takeS S id ch = S2 := ⟨_, rfl⟩
          have HE := Lib.hid hee
          have HS2 := Lib.hid hS2
          clear hee hS2
          by_cases hE : ee = 0
          · subst hE
            by_cases hid : id < 2000
            · skip
              go_region_with (go_at_call 14; refine (take_any _ pb mb most next S id ch hw'.out o3 o4 o5).mono ?_; unfold TakePost; rw [HE.out, HS2.out]; rintro e w3 ⟨rfl, hw3, hf3⟩; have k2' : w3.cell? ⟨b, o + k * 4 + 2, none⟩ = some (.int .u64 (id : Int)) := ((hb'.out.trans ((hf3.below hb'.out.size (fun j hj => by rcases hj with rfl | rfl <;> assumption)))).cell (p := ⟨b, o + k * 4 + 2, none⟩) hbl).trans j2.out)
              all_goals
                have hb3 : Hid (Below w.heap.size w w3) := hb'.out.trans ((hf3.below hb'.out.size (fun j hj => by rcases hj with rfl | rfl <;> assumption)))
                have ht3 : Hid (Tak w3 tb f) := ht'.out.fr hf3 (fun h => by rcases h with h | h <;> omega)
                have HW3 := Lib.hid hw3
                clear hw3 hf3 ht' hb' hw ht hb k0 k1 k2 k3 k2'
                have k2 : w3.cell? ⟨b, o + k * 4 + 2, none⟩ = some (.int .u64 (id : Int)) := (hb3.out.cell (p := ⟨b, o + k * 4 + 2, none⟩) hbl).trans j2.out
                have k3 : w3.cell? ⟨b, o + k * 4 + 3, none⟩ = some (.int .i64 ch) := (hb3.out.cell (p := ⟨b, o + k * 4 + 3, none⟩) hbl).trans j3.out
                have hq := take_good hw'.out.asc HE.out
                obtain ⟨q1, q2, q3, q4, q5, q6⟩ := hq
                have q7 : ∀ x, x ∈ S → x < next := hw'.out.lt
                rw [HS2.out] at q5
                have HM : Hid (∀ j, j < ch.toNat → id + j < next ∧ f (id + j) = false) := fun j hj => ⟨q7 _ (q4 j hj), by
                  cases hfx : f (id + j) with
                  | false => rfl
                  | true => exact absurd (q4 j hj) (hmk.out _ hfx).2⟩
                have hmk' : Hid (Marks (mark f id ch.toNat) next S2) := fun j hj => by
                  unfold mark at hj
                  cases hfx : f j with
                  | true => exact ⟨(hmk.out j hfx).1, fun hx => (hmk.out j hfx).2 (cutS_mem.1 (q5 ▸ hx)).1⟩
                  | false =>
                    rw [hfx] at hj
                    simp only [Bool.false_or, Bool.and_eq_true, decide_eq_true_eq] at hj
                    refine ⟨?_, fun hx => ?_⟩
                    · have h1 := q7 _ (q4 (j - id) (by omega))
                      omega
                    · have h1 := (cutS_mem.1 (q5 ▸ hx)).2
                      omega
                clear hw' q4 q5 q6 q7 hmk
                have ht4 : Hid (Tak w3 tb (mark f id 0)) := by rw [mark_zero]; exact ht3
                clear ht3
                have k2h := Lib.hid k2
                have k3h := Lib.hid k3
                have ch1 : ¬ ch < 1 := by omega
                have ch2 : ¬ 64 < ch := by omega
                go_wp2_with fail
                clear k2 k3 ch1 ch2
                go_loopw [4, 9, 10] (fun s4 s9 _ wr => ∃ j : Nat, j ≤ ch.toNat ∧ s4 = .bool false ∧ s9 = .int .i64 (j : Int) ∧ Hid (Fr (fun i => i = tb) w3 wr) ∧ Hid (Tak wr tb (mark f id j))) (fun _ s9 _ _ => ch.toNat - (intOf s9).toNat)
                case atStart => exact ⟨0, by omega, rfl, rfl, Fr.refl _ _, ht4.out⟩
                case round =>
                  obtain ⟨j, hj, rfl, rfl, hfr, htj⟩ := hrel
                  have k2 := (hfr.out.cell (p := ⟨b, o + k * 4 + 2, none⟩) (by have := hb3.out.size; show b < w3.heap.size; omega) (by show ¬ b = tb; omega)).trans k2h.out
                  have k3 := (hfr.out.cell (p := ⟨b, o + k * 4 + 3, none⟩) (by have := hb3.out.size; show b < w3.heap.size; omega) (by show ¬ b = tb; omega)).trans k3h.out
                  have hwj : Hid (Win wr pb mb most next S2) := HW3.out.fr hfr.out hpt hmt
                  by_cases hlt : j < ch.toNat
                  · obtain ⟨hm1, hm2⟩ := HM.out j hlt
                    have hmf : mark f id j (id + j) = false := by unfold mark; rw [hm2]; simp
                    have cz : wr.cell? ⟨tb, id + j, none⟩ = some (.bool false) := hmf ▸ htj.out.cell (by omega)
                    have cf := htj.out.frozen (id + j)
                    go_wp2_with (first | (go_at_call 15; refine (next_any _ pb mb most next S2 hwj.out).mono ?_; rintro e w5 ⟨rfl, rfl⟩))
                    go_roundw
                    case rel => exact ⟨j + 1, by omega, rfl, by go_num, hfr.out.setCell (fun _ => rfl) _, mark_succ f id j ▸ htj.out.set_ (id + j)⟩
                    case measure => simp [intOf]; omega
                  · have hjn : j = ch.toNat := by omega
                    have HJ := Lib.hid hjn
                    clear hjn
                    go_wp2_with fail
                    have hjn := HJ.out
                    go_roundw
                    case rel => exact ⟨k + 1, next, S2, mark f id ch.toNat, by omega, rfl, by go_num, by omega, by omega, hwj.out, hb3.out.trans (hfr.out.below hb3.out.size (fun i hi => by subst hi; exact htb)), hjn ▸ htj.out, hmk'.out⟩
                    case measure => simp [intOf]; omega
            · have hid2 : (2000 : Int) ≤ (id : Int) := by omega
              go_region_with (go_at_call 14; refine (take_any _ pb mb most next S id ch hw'.out o3 o4 o5).mono ?_; unfold TakePost; rw [HE.out, HS2.out]; rintro e w3 ⟨rfl, hw3, hf3⟩; have k2' : w3.cell? ⟨b, o + k * 4 + 2, none⟩ = some (.int .u64 (id : Int)) := ((hb'.out.trans ((hf3.below hb'.out.size (fun j hj => by rcases hj with rfl | rfl <;> assumption)))).cell (p := ⟨b, o + k * 4 + 2, none⟩) hbl).trans j2.out)
              all_goals
                have hb3 : Hid (Below w.heap.size w w3) := hb'.out.trans ((hf3.below hb'.out.size (fun j hj => by rcases hj with rfl | rfl <;> assumption)))
                have ht3 : Hid (Tak w3 tb f) := ht'.out.fr hf3 (fun h => by rcases h with h | h <;> omega)
                have HW3 := Lib.hid hw3
                have hmk' : Hid (Marks f next S2) := fun j hj => ⟨(hmk.out j hj).1, fun hx => (hmk.out j hj).2 (takeS_sub (HS2.out ▸ hx))⟩
                clear hw3 hf3 ht' hb' hw ht hb k0 k1 k2 k3 k2' hw'
                go_wp2_with fail
                go_roundw
                case rel => exact ⟨k + 1, next, S2, f, by omega, rfl, by go_num, by omega, by omega, HW3.out, hb3.out, ht3.out, hmk'.out⟩
                case measure => simp [intOf]; omega
          · have hE2 : ee = 2 ∨ ee = 17 := by rcases takeE_cases S id ch with h | h | h <;> rw [HE.out] at h <;> omega
            clear hE
            rcases hE2 with rfl | rfl
            all_goals
              first | (go_region_with (go_at_call 14; refine (take_any _ pb mb most next S id ch hw'.out o3 o4 o5).mono ?_; unfold TakePost; rw [HE.out, HS2.out]; rintro e w3 ⟨rfl, hw3, hf3⟩)) | (fail "rg")
              all_goals
                have hb3 : Hid (Below w.heap.size w w3) := hb'.out.trans ((hf3.below hb'.out.size (fun j hj => by rcases hj with rfl | rfl <;> assumption)))
                have ht3 : Hid (Tak w3 tb f) := ht'.out.fr hf3 (fun h => by rcases h with h | h <;> omega)
                have HW3 := Lib.hid hw3
                have hmk' : Hid (Marks f next S2) := fun j hj => ⟨(hmk.out j hj).1, fun hx => (hmk.out j hj).2 (takeS_sub (HS2.out ▸ hx))⟩
                clear hw3 hf3 ht' hb' hw ht hb k0 k1 k2 k3 hw'
                go_wp2_with fail
                go_roundw
                case rel => exact ⟨k + 1, next, S2, f, by omega, rfl, by go_num, by omega, by omega, HW3.out, hb3.out, ht3.out, hmk'.out⟩
                case measure => simp [intOf]; omega
        · -- Give
          go_wp2_with fail
          refine (give_any _ pb mb most next S wt hw.out (by omega) o1 o2).mono ?_
          rintro e w3 ⟨rfl, hw3, hf3⟩
          obtain ⟨g1, g2, g3⟩ := giveN_in wt hw.out.m1 hw.out.len
          have hm2 := hw.out.m2
          have hb3 : Hid (Below w.heap.size w w3) := hb.out.trans ((hf3.below hb.out.size (fun j hj => by rcases hj with rfl | rfl <;> assumption)))
          have ht3 : Hid (Tak w3 tb f) := ht.out.fr hf3 (fun h => by rcases h with h | h <;> omega)
          have hmk' : Hid (Marks f (next + (giveN most S.length wt).toNat) (S ++ run next (giveN most S.length wt).toNat)) := fun j hj => by
            have h1 := hmk.out j hj
            refine ⟨by omega, fun hx => ?_⟩
            rcases List.mem_append.1 hx with hx | hx
            · exact h1.2 hx
            · have := (run_mem.1 hx).1; omega
          have HW3 := Lib.hid hw3
          clear hw3 hf3
          generalize S ++ run next (giveN most S.length wt).toNat = S2 at *
          generalize giveN most S.length wt = gn at *
          obtain ⟨next2, hn2, HW4, hmk2⟩ : ∃ next2 : Nat, next2 ≤ 1 + 64 * (k + 1) ∧ Hid (Win w3 pb mb most next2 S2) ∧ Hid (Marks f next2 S2) := ⟨next + gn.toNat, by omega, HW3, hmk'⟩
          clear g3 HW3 hmk' hw hb ht k0 k1 k2 k3
          go_wp2_with fail
          go_roundw
          case rel => exact ⟨k + 1, next2, S2, f, by omega, rfl, by go_num, by omega, hn2, HW4.out, hb3.out, ht3.out, hmk2.out⟩
          case measure => simp [intOf]; omega
      · by_cases hend : k < n
        all_goals
          have hend2 : k < n → ¬ k < 100 := by omega
          clear hlt
          first | (have hend3 := hend2 hend; clear hend2) | clear hend2
          go_wp2_with (first | (go_at_call 11; refine (works_any _).mono ?_; rintro e w2 ⟨rfl, hb2⟩))
          go_ret
          exact ⟨rfl, hb.out.trans (hb2.mono hb.out.size)⟩
end Go.Proofs.Yteglklcaaicjjaa
