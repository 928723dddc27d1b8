/- Bytes; contracts of Clone, Same, by walks. -/
import Derived.Test.YtmgdbilmfialkaaD
import Derived.Test.YtmgdbilmfialkaaE
import Derived.IntWalk
import Derived.Lib.SliceRun
namespace Go.Proofs.Ytmgdbilmfialkaa
open Go.RowKit Go.WideShapes

theorem ret_int {k : IntKind} {a b : Int} (h : a = b) : Ending.returned (.int k a) = .returned (.int k b) := by rw [h]
/-- Bytes. -/
def AllB (xs : List Value) : Prop := ∀ v ∈ xs, ∃ z : Int, v = .int .u8 z
theorem AllB.one {xs : List Value} (h : AllB xs) : ∀ u ∈ xs, u.oneCell' = true := fun u hu => by obtain ⟨z, rfl⟩ := h u hu; rfl
theorem AllB.nil : AllB [] := fun v hv => by cases hv
theorem AllB.append {xs ys : List Value} (h : AllB xs) (h' : AllB ys) : AllB (xs ++ ys) := fun v hv => (List.mem_append.1 hv).elim (h v) (h' v)
theorem AllB.take {xs : List Value} (h : AllB xs) (n : Nat) : AllB (xs.take n) := fun v hv => h v (List.mem_of_mem_take hv)
theorem AllB.drop {xs : List Value} (h : AllB xs) (n : Nat) : AllB (xs.drop n) := fun v hv => h v (List.mem_of_mem_drop hv)
theorem Src.len1 {w : World} {ao : Option Addr} {n : Nat} {xs : List Value} (h : Src w 1 ao n xs) : xs.length = n := by have := h.1; omega

theorem inf5 : (Try.prog.info? 5).map (fun i => (i.zero, i.size, i.bytes)) = some (some (.int .u8 0), 1, 1) := by kernel_rfl

/-- slices.Clone at bytes. -/
theorem clone_in (w : World) (ao : Option Addr) (n c : Nat) (xs : List Value) (hb : Src w 1 ao n xs) (ha : AllB xs) (hn : n ≤ 1073741824) (h0 : ao = none → n = 0 ∧ c = 0) :
    Calls Try.prog 25 #[.slice ao n c] w fun e w' => ∃ ro rc, e = .returned (.slice ro n rc) ∧ Row w.heap.size w' 5 1 ro n rc xs ∧ Below w.heap.size w w' := by
  obtain ⟨i0, hi, hz0, hz1, hz2⟩ := info_parts inf5
  have q29 : ∀ (w : World) (a : Option Addr) (n c n' c' : Nat), (binOp .eql 29 (.slice a n c) (.slice none n' c')).run Try.prog w = .ok (.bool a.isNone) w := fun w a n c n' c' => Lib.run_eql_slice_nil w _ _ a n c n' c' Try.underlying29
  cases ao with
  | none =>
    obtain ⟨rfl, rfl⟩ := h0 rfl
    have hx : xs = [] := List.eq_nil_of_length_eq_zero hb.len1
    subst hx
    clear h0 hb ha
    go_enter Try.func25, Try.ntmps25
    go_wp2_with fail
    go_ret
    exact ⟨none, 0, rfl, Row.nil _ _ _ _, Below.refl _ _⟩
  | some ad =>
    have HR0 : Hid (Row w.heap.size (w.alloc (.cells #[] 5)) 5 1 (some ⟨w.heap.size, 0, none⟩) 0 0 []) := World.ownsRow_made w #[] 0 (Nat.le_refl _) (Nat.zero_le _) rfl
    have HF1 : Hid (Fr none0 w (w.alloc (.cells #[] 5))) := (Fr.refl none0 _).alloc _
    have HV : Hid (Src (w.alloc (.cells #[] 5)) 1 (some ad) n xs) := hb.fr HF1.out (fun _ _ _ h => h)
    have HO := Lib.hid ha.one
    clear h0 hb ha
    go_enter Try.func25, Try.ntmps25
    go_wp2_with (at_builtin; refine wpList_append_src _ rfl (.tmp 5) (.tmp 6) 29 rfl w.heap.size 5 i0 _ 1 1 Try.underlying29 hi hz0 hz1 hz2 rfl (by decide) (some ⟨w.heap.size, 0, none⟩) 0 0 [] rfl HR0.out (some ad) n c xs rfl HV.out HO.out ?_ ?_ ?_ ?_)
    · unfold maxLen; omega
    · omega
    · simp
    intro ro rc w4 hr4 hf4 _
    have HR4 : Hid (Row w.heap.size w4 5 1 ro n rc xs) := by show Row _ _ _ _ _ _ _ _; simpa using hr4
    have HB4 : Hid (Below w.heap.size w w4) := (HF1.out.rowed HR0.out (Nat.le_refl _) hf4).below (Nat.le_refl _) (fun _ h => h.elim)
    clear hr4 hf4
    go_wp2_with fail
    go_ret
    exact ⟨ro, rc, rfl, HR4.out, HB4.out⟩

/-- Same, at the same bytes. -/
theorem same_any (w : World) (ao bo : Option Addr) (n c c' : Nat) (xs : List Value) (ha : Src w 1 ao n xs) (hb : Src w 1 bo n xs) (hx : AllB xs) (hn : n ≤ 9223372036854775806) :
    Calls Try.prog 15 #[.slice ao n c, .slice bo n c'] w fun e w' => e = .returned (.bool true) ∧ Below w.heap.size w w' := by
  have HA := Lib.hid ha
  have HB := Lib.hid hb
  have HX := Lib.hid hx
  clear ha hb hx
  go_enter Try.func15, Try.ntmps15
  go_wp2_with fail
  go_loopw [4, 5] (fun _ s5 wr => ∃ k : Nat, k ≤ n ∧ s5 = .int .i64 k ∧ Hid (Fr none0 w wr)) (fun _ s _ => n - (intOf s).toNat)
  case atStart => exact ⟨0, Nat.zero_le _, rfl, Fr.refl _ _⟩
  case round =>
    obtain ⟨k, hk, rfl, hf⟩ := hrel
    by_cases hlt : k < n
    · have hk2 : xs[k]? = some (xs[k]'(by rw [HA.out.len1]; exact hlt)) := List.getElem?_eq_getElem _
      obtain ⟨z, hz⟩ := HX.out _ (List.mem_of_getElem? hk2)
      rw [hz] at hk2
      obtain ⟨b, o, rfl, hbl, hc⟩ := HA.out.2 _ _ hk2
      obtain ⟨b', o', rfl, hbl', hc'⟩ := HB.out.2 _ _ hk2
      have d0 : wr.cell? ⟨b, o + k, none⟩ = some (.int .u8 z) := (hf.out.cell (p := ⟨b, _, none⟩) hbl (fun h => h)).trans hc
      have d1 : wr.cell? ⟨b', o' + k, none⟩ = some (.int .u8 z) := (hf.out.cell (p := ⟨b', _, none⟩) hbl' (fun h => h)).trans hc'
      have i1 : (0 : Int) ≤ (k : Int) := by omega
      have i2 : (k : Int) < (n : Int) := by omega
      clear hc hc' hz hk2
      go_wp2_with fail
      go_quiet (fail)
      go_wp2_with fail
      go_roundw
      case rel => exact ⟨k + 1, by omega, by go_num, hf.out.drewN _⟩
      case measure => simp [intOf]; omega
    · go_wp2_with fail
      go_ret
      exact ⟨rfl, hf.out.below (Nat.le_refl _) (fun _ h => h.elim)⟩
end Go.Proofs.Ytmgdbilmfialkaa
