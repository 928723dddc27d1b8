/- Contracts of Among (both), by walks. -/
import Derived.Test.YtniipdeonahoaaaDoorW3
import Derived.StillTailTactics
import Derived.Deep.RegionWith
namespace Go.Proofs.YtniipdeonahoaaaDoor
open Go.RowKit

theorem our_among (b o n c : Nat) (A S : Nat → Int) (m0 m1 : Int) (w : World) (hM : Modes w b o n A S) (hn : n ≤ 9223372036854775807)
    (h3 : 0 ≤ m0) (h3' : m0 ≤ 4294967295) (h4 : 0 ≤ m1) (h4' : m1 ≤ 4294967295) :
    Calls Tryd.prog 17 #[.slice (some ⟨b, o, none⟩) n c, .agg #[.int .u32 m0, .int .u32 m1]] w fun e w' =>
      e = .returned (.int .i64 (firstAt (fun i => ClashR (A i) (S i) m0 m1) n)) ∧ Below w.heap.size w w' := by
  have hb0 := (Below.refl w.heap.size w).alloc (Nat.le_refl _) (.cells #[.int .u32 m0, .int .u32 m1] 31)
  have hcon := indexFunc_any b o n c A S m0 m1 w.heap.size _ (hM.below hb0 hM.1) hn (by simp) (by simp) h3 h3' h4 h4'
  clear hM
  generalize firstAt (fun i => ClashR (A i) (S i) m0 m1) n = r at hcon ⊢
  go_enter Tryd.func17, Tryd.ntmps17
  go_wp2_with fail
  refine hcon.mono ?_
  rintro e w1 ⟨rfl, b1⟩
  go_wp2_with fail
  go_ret
  exact ⟨rfl, hb0.trans (b1.mono (by simp))⟩

set_option maxHeartbeats 400000 in
theorem ref_among (b o n c : Nat) (A S : Nat → Int) (m0 m1 : Int) (w : World) (hM : Modes w b o n A S) (hn : n ≤ 9223372036854775807) :
    Calls Tryd.prog 18 #[.slice (some ⟨b, o, none⟩) n c, .agg #[.int .u32 m0, .int .u32 m1]] w fun e w' =>
      e = .returned (.int .i64 (firstAt (fun i => ClashR (A i) (S i) m0 m1) n)) ∧ Below w.heap.size w w' := by
  have hB : w.heap.size < (w.alloc (.cells #[.int .u32 m0, .int .u32 m1] 31)).heap.size := by simp
  have hb0 := (Below.refl w.heap.size w).alloc (Nat.le_refl _) (.cells #[.int .u32 m0, .int .u32 m1] 31)
  have c0 : (w.alloc (.cells #[.int .u32 m0, .int .u32 m1] 31)).cell? ⟨w.heap.size, 0, none⟩ = some (.int .u32 m0) := by simp
  have c1 : (w.alloc (.cells #[.int .u32 m0, .int .u32 m1] 31)).cell? ⟨w.heap.size, 1, none⟩ = some (.int .u32 m1) := by simp
  have hM0 := hM.below hb0 hM.1
  have hlt0 := hM.1
  clear hM
  go_enter Tryd.func18, Tryd.ntmps18
  go_wp2
  generalize hW1 : w.alloc (.cells #[.int .u32 m0, .int .u32 m1] 31) = w0 at *
  have HW1 : Hid (w.alloc (.cells #[.int .u32 m0, .int .u32 m1] 31) = w0) := hW1
  clear hW1
  go_loopw [4, 5] (fun _ s5 wr => ∃ k : Nat, k ≤ n ∧ s5 = .int .i64 k ∧ Hid (Below w0.heap.size w0 wr) ∧ Hid (∀ j, j < k → ClashR (A j) (S j) m0 m1 = false)) (fun _ s5 _ => n - (intOf s5).toNat)
  case atStart => exact ⟨0, Nat.zero_le _, rfl, Below.refl _ _, fun j hj => absurd hj (Nat.not_lt_zero _)⟩
  case round =>
    obtain ⟨k, hk, rfl, hb, hf⟩ := hrel
    by_cases hlt : k < n
    · have hM' := hM0.below hb.out hM0.1
      obtain ⟨l0, l1, r1, r2, r3, r4⟩ := hM'.2 k hlt
      have d0 := (hb.out.cell (p := ⟨w.heap.size, 0, none⟩) hB).trans c0
      have d1 := (hb.out.cell (p := ⟨w.heap.size, 1, none⟩) hB).trans c1
      have hft := firstAt_hit (fun i => ClashR (A i) (S i) m0 m1) n k hlt
      clear hM' hM0 c0 c1
      generalize hAk : A k = a at *
      generalize hSk : S k = s at *
      have HA : Hid (A k = a ∧ S k = s) := ⟨hAk, hSk⟩
      clear hAk hSk
      have hcl : ∀ W : World, Calls Tryd.prog 16 #[.agg #[.int .u32 a, .int .u32 s], .agg #[.int .u32 m0, .int .u32 m1]] W fun e w' => e = .returned (.bool (ClashR a s m0 m1)) ∧ Below W.heap.size W w' := fun W => ref_clash _ _ _ _ W
      cases hq : ClashR a s m0 m1
      · rw [hq] at hcl
        go_wp2_with fail
        go_region_with (go_at_call 16; refine (hcl _).mono ?_; rintro e w1 ⟨rfl, b1⟩)
        all_goals
          go_wp2_with fail
          go_roundw
          case rel =>
            refine ⟨k + 1, by omega, by go_num, hb.out.drew.trans (b1.mono hb.out.size), (show Hid _ from fun j hj => ?_)⟩
            by_cases e : j = k
            · subst e; rw [HA.out.1, HA.out.2]; exact hq
            · exact hf.out j (by omega)
          case measure => simp [intOf]; omega
      · rw [hq] at hcl
        go_wp2_with fail
        go_region_with (go_at_call 16; refine (hcl _).mono ?_; rintro e w1 ⟨rfl, b1⟩)
        all_goals
          go_wp2_with fail
          go_ret
          refine ⟨?_, ?_⟩
          · rw [hft hq hf.out]; rfl
          · exact hb0.trans ((hb.out.drew.trans (b1.mono hb.out.size)).mono (Nat.le_of_lt hB))
    · have : k = n := by omega
      subst this
      go_wp2_with fail
      go_ret
      refine ⟨?_, ?_⟩
      · rw [firstAt_miss _ _ hf.out]; rfl
      · exact hb0.trans (hb.out.mono (Nat.le_of_lt hB))
end Go.Proofs.YtniipdeonahoaaaDoor
