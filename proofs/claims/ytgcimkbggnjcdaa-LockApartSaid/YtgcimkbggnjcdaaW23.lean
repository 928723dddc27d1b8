/- LockApart, by a walk over the contracts. -/
import Derived.Test.YtgcimkbggnjcdaaW22
namespace Go.Proofs.Ytgcimkbggnjcdaa
open Go.RowKit Go.WideShapes

set_option maxHeartbeats 4000000 in
theorem LockApart_walk (ao : Option Addr) (n c : Nat) (A : Nat → ActV) (w : World) (hA : Acts w ao n A) (hn : n ≤ 9223372036854775807) :
    Calls Try.prog 5 #[.slice ao n c] w fun e w' => e = .returned (.bool true) ∧ Below w.heap.size w w' := by
  go_enter Try.func5, Try.ntmps5
  go_wp2_with fail
  refine (played_any w ao n c A hA hn).mono ?_
  rintro e w1 ⟨pb, rb, S, qo, qc, bo, d, rfl, hh, hi, hb⟩
  have HB1 := Lib.hid hb
  have HT1 := Lib.hid hh.t
  have hS := hh.t.len
  have HI := Lib.hid hi
  have HOK := Lib.hid hh.t.ok
  clear hb hh hA hi
  go_wp2_with fail
  refine (all_any w.heap.size w1 pb S qo qc HT1.out).mono ?_
  rintro e w2 ⟨ro, rc, rfl, hr2, hb2⟩
  have HB2 : Hid (Below w.heap.size w w2) := HB1.out.trans (hb2.mono HB1.out.size)
  have HR2 := Lib.hid hr2
  clear hr2 hb2
  go_wp2_with fail
  go_loopw [2, 7, 8, 9, 10, 11] (fun _ s7 _ _ _ _ wr => ∃ (i : Nat), i ≤ S.length ∧ s7 = .int .i64 i ∧ Hid (Fr none0 w2 wr)) (fun _ s _ _ _ _ _ => S.length - (intOf s).toNat)
  case atStart => exact ⟨0, Nat.zero_le _, rfl, Fr.refl _ _⟩
  case round =>
    obtain ⟨i, hi, rfl, hf⟩ := hrel
    by_cases hlt : i < S.length
    · go_wp2_with fail
      go_loopw [2, 8, 9, 10, 11] (fun _ s8 _ _ _ wr => ∃ (k : Nat), k ≤ i ∧ s8 = .int .i64 k ∧ Hid (Fr none0 w2 wr)) (fun _ s _ _ _ _ => i - (intOf s).toNat)
      case atStart => exact ⟨0, Nat.zero_le _, rfl, hf.out⟩
      case round =>
        obtain ⟨k, hk, rfl, hf⟩ := hrel
        by_cases hlt2 : k < i
        · have hkS : k < S.length := by omega
          have hwr : Hid (Row w1.heap.size wr 34 4 ro S.length rc (flat S)) := HR2.out.fr hf.out (fun _ _ h => h)
          obtain ⟨g, rfl⟩ := HR2.out.form (by omega)
          have hc := List.pairwise_iff_getElem.1 HI.out k i hkS hlt hlt2
          have hi2 : S[i]? = some S[i] := List.getElem?_eq_getElem hlt
          have hk2 : S[k]? = some S[k] := List.getElem?_eq_getElem hkS
          obtain ⟨d0, d1, d2, d3⟩ := row_cells hwr.out hi2
          obtain ⟨e0, e1, e2, e3⟩ := row_cells hwr.out hk2
          have hfx := HOK.out _ (List.getElem_mem hlt)
          have hfy := HOK.out _ (List.getElem_mem hkS)
          clear hi2 hk2
          have HC := Lib.hid hc
          clear hc
          generalize S[i] = x at *
          generalize S[k] = y at *
          obtain ⟨xo, xa, xn, xm⟩ := x
          obtain ⟨yo, ya, yn, ym⟩ := y
          dsimp only at d0 d1 d2 d3 e0 e1 e2 e3
          have hgs : g < wr.heap.size := World.block_lt_of_cell? wr _ d0
          have i0 : (0 : Int) ≤ (i : Int) := by omega
          have i1 : (i : Int) < (S.length : Int) := by omega
          have i2 : (0 : Int) ≤ (k : Int) := by omega
          have i3 : (k : Int) < (S.length : Int) := by omega
          have v1 : IntKind.u64.wrap ((ya : Int) + (yn : Int)) = (ya : Int) + (yn : Int) := by unfold Fit M at hfy; dsimp only at hfy; rw [IntWalk.u64_in _ (by omega)]
          have v2 : IntKind.u64.wrap ((xa : Int) + (xn : Int)) = (xa : Int) + (xn : Int) := by unfold Fit M at hfx; dsimp only at hfx; rw [IntWalk.u64_in _ (by omega)]
          clear hfx hfy
          go_wp2_with fail
          go_region_held3 (fun w' => w'.cell? ⟨g, i * 4, none⟩ = some (.int .i64 xo) ∧ w'.cell? ⟨g, i * 4 + 1, none⟩ = some (.int .u64 (xa : Int)) ∧ w'.cell? ⟨g, i * 4 + 2, none⟩ = some (.int .u64 (xn : Int)) ∧ w'.cell? ⟨g, i * 4 + 3, none⟩ = some (.int .u16 (xm : Int)) ∧ w'.cell? ⟨g, k * 4, none⟩ = some (.int .i64 yo) ∧ w'.cell? ⟨g, k * 4 + 1, none⟩ = some (.int .u64 (ya : Int)) ∧ w'.cell? ⟨g, k * 4 + 2, none⟩ = some (.int .u64 (yn : Int)) ∧ w'.cell? ⟨g, k * 4 + 3, none⟩ = some (.int .u16 (ym : Int))) (go_keep) (fail)
          all_goals
            by_cases h1 : 0 < xn
            rotate_left
            · have q1 : ¬ (0 : Int) < (xn : Int) := by omega
              go_wp2_with fail
              go_roundw
              case rel => exact ⟨k + 1, by omega, by go_num, by show Fr _ _ _; (repeat (first | refine Fr.setCell ?_ (fun h => absurd h (by have := hf.out.size; simp; omega)) _ | refine Fr.alloc ?_ _ | refine Fr.drew ?_)); exact hf.out⟩
              case measure => simp [intOf]; omega
            have q1 : (0 : Int) < (xn : Int) := by omega
            by_cases h2 : 0 < yn
            rotate_left
            · have q2 : ¬ (0 : Int) < (yn : Int) := by omega
              go_wp2_with fail
              go_roundw
              case rel => exact ⟨k + 1, by omega, by go_num, by show Fr _ _ _; (repeat (first | refine Fr.setCell ?_ (fun h => absurd h (by have := hf.out.size; simp; omega)) _ | refine Fr.alloc ?_ _ | refine Fr.drew ?_)); exact hf.out⟩
              case measure => simp [intOf]; omega
            have q2 : (0 : Int) < (yn : Int) := by omega
            by_cases h3 : xa < ya + yn
            rotate_left
            · have q3 : ¬ (xa : Int) < (ya : Int) + (yn : Int) := by omega
              go_wp2_with fail
              go_roundw
              case rel => exact ⟨k + 1, by omega, by go_num, by show Fr _ _ _; (repeat (first | refine Fr.setCell ?_ (fun h => absurd h (by have := hf.out.size; simp; omega)) _ | refine Fr.alloc ?_ _ | refine Fr.drew ?_)); exact hf.out⟩
              case measure => simp [intOf]; omega
            have q3 : (xa : Int) < (ya : Int) + (yn : Int) := by omega
            by_cases h4 : ya < xa + xn
            rotate_left
            · have q4 : ¬ (ya : Int) < (xa : Int) + (xn : Int) := by omega
              go_wp2_with fail
              go_roundw
              case rel => exact ⟨k + 1, by omega, by go_num, by show Fr _ _ _; (repeat (first | refine Fr.setCell ?_ (fun h => absurd h (by have := hf.out.size; simp; omega)) _ | refine Fr.alloc ?_ _ | refine Fr.drew ?_)); exact hf.out⟩
              case measure => simp [intOf]; omega
            have q4 : (ya : Int) < (xa : Int) + (xn : Int) := by omega
            have hm : ¬ xm = 2 ∧ ¬ ym = 2 := by
              have := HC.out
              unfold clashB meetB at this
              simp only [h1, h2, h3, h4, and_self, decide_true, Bool.true_and, Bool.or_eq_false_iff, decide_eq_false_iff_not] at this
              exact ⟨this.2, this.1⟩
            have z1 : ((xm : Int) == 2) = false := by rw [mode_beq]; simpa using hm.1
            have z2 : ((ym : Int) == 2) = false := by rw [mode_beq]; simpa using hm.2
            clear hm
            go_wp2_with fail
            go_roundw
            case rel => exact ⟨k + 1, by omega, by go_num, by show Fr _ _ _; (repeat (first | refine Fr.setCell ?_ (fun h => absurd h (by have := hf.out.size; simp; omega)) _ | refine Fr.alloc ?_ _ | refine Fr.drew ?_)); exact hf.out⟩
            case measure => simp [intOf]; omega
        · go_wp2_with fail
          go_roundw
          case rel => exact ⟨i + 1, by omega, by go_num, hf.out⟩
          case measure => simp [intOf]; omega
    · have hie : i = S.length := by omega
      go_wp2_with fail
      refine (works_any _).mono ?_
      rintro e w10 ⟨rfl, hb10⟩
      go_wp2_with fail
      go_ret
      have hb' : Below w.heap.size w wr := HB2.out.trans ((hf.out.below (Nat.le_refl _) (fun _ h => h.elim)).mono HB2.out.size)
      exact ⟨rfl, hb'.trans (hb10.mono hb'.size)⟩
end Go.Proofs.Ytgcimkbggnjcdaa
