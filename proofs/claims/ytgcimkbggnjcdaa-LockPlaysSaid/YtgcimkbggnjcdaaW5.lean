/- Contracts of Clone, All, Locks (equal rows), Of (both), by walks. -/
import Derived.Test.YtgcimkbggnjcdaaW4
import Derived.Lib.SliceRun
namespace Go.Proofs.Ytgcimkbggnjcdaa
open Go.RowKit

theorem inf34 : (Try.prog.info? 34).map (fun i => (i.zero, i.size, i.bytes)) = some (some (.agg #[.int .i64 0, .int .u64 0, .int .u64 0, .int .u16 0]), 4, 32) := by kernel_rfl
theorem flat_one (S : List Lk) : ∀ u ∈ flat S, u.oneCell' = true := by
  intro v hv
  unfold flat at hv
  obtain ⟨x, _, hv⟩ := List.mem_flatMap.1 hv
  simp [cells] at hv
  rcases hv with rfl | rfl | rfl | rfl <;> rfl

/-- What a slice reads as: the locks S. -/
theorem clone_any (w : World) (B : Nat) (ao : Option Addr) (cap : Nat) (S : List Lk) (hr : Row B w 34 4 ao S.length cap (flat S)) (hS : S.length ≤ 100000) :
    Calls Try.prog 27 #[.slice ao S.length cap] w fun e w' => ∃ ro rc, e = .returned (.slice ro S.length rc) ∧ Row w.heap.size w' 34 4 ro S.length rc (flat S) ∧ Below w.heap.size w w' := by
  obtain ⟨i0, hi, hz0, hz1, hz2⟩ := info_parts inf34
  have q30 : ∀ (w : World) (a : Option Addr) (n c n' c' : Nat), (binOp .eql 30 (.slice a n c) (.slice none n' c')).run Try.prog w = .ok (.bool a.isNone) w := fun w a n c n' c' => Lib.run_eql_slice_nil w _ _ a n c n' c' Try.underlying30
  rcases hr.forms with rfl | ⟨g, rfl⟩
  · obtain ⟨h0, hc, hx⟩ := hr.of_none
    rw [h0, hc, hx]
    have H0 := Lib.hid h0
    have HX := Lib.hid hx
    clear hr h0 hx hc
    go_enter Try.func27, Try.ntmps27
    go_wp2_with fail
    go_ret
    exact ⟨none, 0, rfl, Row.nil _ _ _ _, Below.refl _ _⟩
  · have HR := Lib.hid hr
    have HR1 : Hid (Row B (w.alloc (.cells #[] 34)) 34 4 (some ⟨g, 0, none⟩) S.length cap (flat S)) := hr.fr ((Fr.refl none0 _).alloc _) (fun _ _ h => h)
    have HR0 : Hid (Row w.heap.size (w.alloc (.cells #[] 34)) 34 4 (some ⟨w.heap.size, 0, none⟩) 0 0 []) := World.ownsRow_made w #[] 0 (Nat.le_refl _) (Nat.zero_le _) rfl
    have HF1 : Hid (Fr none0 w (w.alloc (.cells #[] 34))) := (Fr.refl none0 _).alloc _
    have hl := flat_length S
    clear hr
    go_enter Try.func27, Try.ntmps27
    go_wp2_with (at_builtin; refine wpList_append_row rfl (.tmp 5) (.tmp 6) 30 rfl 34 i0 _ 4 32 Try.underlying30 hi hz0 hz1 hz2 rfl (by decide) (by decide) w.heap.size (some ⟨w.heap.size, 0, none⟩) 0 0 [] rfl HR0.out g 0 S.length cap (flat S) rfl hl ?_ ?_ ?_ ?_ ?_)
    · intro j u hj
      have hjl : j < S.length * 4 := by rw [← hl]; exact (List.getElem?_eq_some_iff.1 hj).1
      rw [Nat.zero_add, HR1.out.cell hjl, hj]
    · exact flat_one S
    · omega
    · first | omega | (simp; done) | (simp; omega)
    intro ro rc w4 hr4 hf4 _
    have HR4 : Hid (Row w.heap.size w4 34 4 ro S.length rc (flat S)) := by show Row _ _ _ _ _ _ _ _; simpa using hr4
    have HB4 : Hid (Below w.heap.size w w4) := (HF1.out.rowed HR0.out (Nat.le_refl _) hf4).below (Nat.le_refl _) (fun _ h => h.elim)
    clear hr4 hf4 hl
    go_wp2_with fail
    go_ret
    exact ⟨ro, rc, rfl, HR4.out, HB4.out⟩

theorem all_any (B : Nat) (w : World) (pb : Nat) (S : List Lk) (ao : Option Addr) (cap : Nat) (h : Tb B w pb S ao cap) :
    Calls Try.prog 13 #[.pointer (some ⟨pb, 0, none⟩)] w fun e w' => ∃ ro rc, e = .returned (.slice ro S.length rc) ∧ Row w.heap.size w' 34 4 ro S.length rc (flat S) ∧ Below w.heap.size w w' := by
  have H := Lib.hid h
  have hS := h.len
  have c0 := h.c0
  have c1 := h.c1
  clear h
  go_enter Try.func13, Try.ntmps13
  go_wp2_with fail
  refine (off_any w pb c0).mono ?_
  rintro e w1 ⟨rfl, rfl⟩
  go_wp2_with fail
  refine (clone_any w B ao cap S H.out.row (by omega)).mono ?_
  rintro e w2 ⟨ro, rc, rfl, hr, hb⟩
  have HR := Lib.hid hr
  clear hr
  go_wp2_with fail
  go_ret
  exact ⟨ro, rc, rfl, HR.out, hb⟩

theorem locks_same (B B' : Nat) (w : World) (ao bo : Option Addr) (c c' : Nat) (S : List Lk) (hr : Row B w 34 4 ao S.length c (flat S)) (hr' : Row B' w 34 4 bo S.length c' (flat S)) (hn : S.length ≤ 1000000000) :
    Calls Try.prog 17 #[.slice ao S.length c, .slice bo S.length c'] w fun e w' => e = .returned (.bool true) ∧ Below w.heap.size w w' := by
  have HR := Lib.hid hr
  have HR' := Lib.hid hr'
  clear hr hr'
  go_enter Try.func17, Try.ntmps17
  go_wp2_with fail
  go_loopw [4, 5] (fun _ s5 wr => ∃ k : Nat, k ≤ S.length ∧ s5 = .int .i64 k ∧ Hid (Fr none0 w wr)) (fun _ s _ => S.length - (intOf s).toNat)
  case atStart => exact ⟨0, Nat.zero_le _, rfl, Fr.refl _ _⟩
  case round =>
    obtain ⟨k, hk, rfl, hf⟩ := hrel
    by_cases hlt : k < S.length
    · obtain ⟨g, rfl⟩ := HR.out.form (by omega)
      obtain ⟨g', rfl⟩ := HR'.out.form (by omega)
      have hk2 : S[k]? = some S[k] := List.getElem?_eq_getElem hlt
      obtain ⟨d0, d1, d2, d3⟩ := row_cells (HR.out.fr hf.out (fun _ _ h => h)) hk2
      obtain ⟨e0, e1, e2, e3⟩ := row_cells (HR'.out.fr hf.out (fun _ _ h => h)) hk2
      clear hk2
      generalize S[k] = y at *
      obtain ⟨yo, ya, yn, ym⟩ := y
      dsimp only at d0 d1 d2 d3 e0 e1 e2 e3
      go_wp2_with fail
      go_quiet (fail)
      go_wp2_with fail
      go_roundw
      case rel => exact ⟨k + 1, by omega, by go_num, hf.out.drewN _⟩
      case measure => simp [intOf]; omega
    · go_wp2_with fail
      go_ret
      exact ⟨rfl, hf.out.below (Nat.le_refl _) (fun _ h => h.elim)⟩
end Go.Proofs.Ytgcimkbggnjcdaa
