/- Contract of played, NetPlays and NetCuts, by walks. -/
import Derived.Test.YtmgdbilmfialkaaW18
namespace Go.Proofs.Ytmgdbilmfialkaa
open Go.RowKit Go.WideShapes Go.Maps

theorem zero63 (w : World) : (zeroValue 63).run Try.prog w = .ok (.agg #[.int .i64 0, .slice none 0 0]) w := by kernel_rfl
theorem env2_new {B : Nat} {w : World} {pb mb : Nat} {own : Own} (h : Env B w pb mb 0 [] own) :
    Env2 B (w.alloc (.cells #[.int .i64 0, .slice none 0 0] 63)) pb mb w.heap.size 0 [] 0 [] (fun i => if i = w.heap.size then (0, 3) else own i) := by
  have hal : Below w.heap.size w (w.alloc (.cells #[.int .i64 0, .slice none 0 0] 63)) := (Below.refl _ _).alloc (Nat.le_refl _) _
  have hB := h.hB
  have hsz : (w.alloc (.cells #[.int .i64 0, .slice none 0 0] 63)).heap.size = w.heap.size + 1 := by simp
  refine ⟨⟨(h.net.relabel (fun k hk => if_neg (by omega))).below hal, fun i hi => ?_, fun i hi => ?_, by omega⟩, ⟨[], none, 0, rfl, ⟨hB, Blk.new _ _ _, Row.nil _ _ _ _, (fun x hx => by cases hx), List.Pairwise.nil, (fun x hx => by cases hx), by simp, by simp, by simp, if_pos rfl, (fun k hk => by obtain ⟨a, ha, _⟩ := hk; cases ha)⟩⟩⟩
  · show (if i = w.heap.size then ((0, 3) : Int × Nat) else own i) = _
    rw [if_neg (by omega)]; exact h.old i hi
  · show (if i = w.heap.size then ((0, 3) : Int × Nat) else own i) = _
    rw [if_neg (by omega)]; exact h.new i (by omega)
/-- What came in, after the law has begun. -/
theorem Src.in0 {w wr : World} {bo : Option Addr} {bn : Nat} {bs : List Value} (h : Src w 1 bo bn bs) {pb mb : Nat} {last : Int} {A : List Ab} {own : Own} (he : Env w.heap.size wr pb mb last A own) : bs = [] ∨ Out own bo := by
  cases bs with
  | nil => exact Or.inl rfl
  | cons v vs =>
    right
    obtain ⟨b, o, rfl, hb, _⟩ := h.2 0 v rfl
    rintro k ⟨a, ha, rfl⟩
    injection ha with ha
    subst ha
    exact he.old _ hb

def PlayedPost (B : Nat) (w : World) (e : Ending) (w' : World) : Prop :=
  ∃ pb mb rb last A own, e = .returned (.tuple #[.pointer (some ⟨pb, 0, none⟩), .pointer (some ⟨rb, 0, none⟩), .bool true]) ∧ Env2 B w' pb mb rb last A last A own ∧ last ≤ 100 ∧ Below B w w'

set_option maxHeartbeats 4000000 in
theorem played_any (w : World) (ao : Option Addr) (n c : Nat) (F : Nat → ActV) (hF : Acts w ao n F) :
    Calls Try.prog 16 #[.slice ao n c] w (PlayedPost w.heap.size w) := by
  have HF := Lib.hid hF
  have hz63 := zero63
  clear hF
  go_enter Try.func16, Try.ntmps16
  go_wp2_with fail
  refine (env_new w).mono ?_
  rintro e w1 ⟨pb, mb, own1, rfl, he1, hb1⟩
  have HB2 : Hid (Below w.heap.size w (w1.alloc (.cells #[.int .i64 0, .slice none 0 0] 63))) := hb1.alloc hb1.size _
  have HH := Lib.hid (env2_new he1)
  clear hb1 he1
  go_wp2_with fail
  generalize w1.alloc (.cells #[.int .i64 0, .slice none 0 0] 63) = w2 at *
  generalize (fun i => if i = w1.heap.size then ((0, 3) : Int × Nat) else own1 i) = own2 at *
  generalize w1.heap.size = rb at *
  go_loopw [2, 3, 4, 7] (fun _ _ _ s wr => ∃ (k : Nat) (last : Int) (A : List Ab) (own : Own), k ≤ n ∧ k ≤ 100 ∧ last ≤ (k : Int) ∧ s = .int .i64 k ∧ Hid (Env2 w.heap.size wr pb mb rb last A last A own) ∧ Hid (Below w.heap.size w wr)) (fun _ _ _ s _ => n - (intOf s).toNat)
  case atStart => exact ⟨0, 0, [], own2, Nat.zero_le _, Nat.zero_le _, by omega, rfl, HH.out, HB2.out⟩
  case round =>
    obtain ⟨k, last, A, own, hk, hk2, hkl, rfl, hh, hb⟩ := hrel
    by_cases hlt : k < n ∧ k < 100
    · obtain ⟨hl1, hl2⟩ := hlt
      obtain ⟨b, o, rfl, hbl, ha0⟩ := HF.out k hl1
      have hout := Src.in0 ha0.src hh.out.env
      have HO := Lib.hid hout
      obtain ⟨k0, k1, k2, k3, k4, hs, hy, hn, hin1, hin2⟩ := ha0.below hb.out (Nat.le_refl _) hbl
      have HS := Lib.hid hs
      have HY := Lib.hid hy
      clear ha0 hs hy hout
      generalize F k = q at *
      obtain ⟨dd, kk, way, most, ⟨po, pn, pc, xs⟩⟩ := q
      dsimp only at k0 k1 k2 k3 k4 HS HY HO hn hin1 hin2
      have hi1 : (0 : Int) ≤ (k : Int) := by omega
      have hi2 : (k : Int) < (n : Int) := by omega
      go_wp2_with fail
      refine (act_any w.heap.size wr pb mb rb last A own dd kk way most po pn pc xs hh.out (by omega) hin1 hin2 HS.out HY.out hn HO.out).mono ?_
      rintro e w3 ⟨rfl, last3, A3, hl3, own3, hh3, _, hb3, _⟩
      have HH3 := Lib.hid hh3
      have HB3 : Hid (Below w.heap.size w w3) := hb.out.trans hb3
      clear hh3 hb3
      go_wp2_with fail
      go_roundw
      case rel => exact ⟨k + 1, last3, A3, own3, by omega, by omega, by omega, by go_num, HH3.out, HB3.out⟩
      case measure => simp [intOf]; omega
    · have hkl2 : last ≤ 100 := by omega
      by_cases hend : k < n
      all_goals
        have hend2 : k < n → ¬ k < 100 := by omega
        clear hlt
        first | (have hend3 := hend2 hend; clear hend2) | clear hend2
        go_wp2_with fail
        refine (same2_any w.heap.size wr pb mb rb last A own hh.out).mono ?_
        rintro e w4 ⟨rfl, hb4⟩
        have HH4 := Lib.hid (hh.out.below hb4)
        have HB4 : Hid (Below w.heap.size w w4) := hb.out.trans (hb4.mono hb.out.size)
        clear hb4
        go_wp2_with fail
        go_ret3
        exact ⟨pb, mb, rb, last, A, own, rfl, HH4.out, hkl2, HB4.out⟩

theorem NetPlays_walk (ao : Option Addr) (n c : Nat) (F : Nat → ActV) (w : World) (hF : Acts w ao n F) (_ : n ≤ 9223372036854775807) :
    Calls Try.prog 6 #[.slice ao n c] w fun e w' => e = .returned (.bool true) ∧ Below w.heap.size w w' := by
  go_enter Try.func6, Try.ntmps6
  go_wp2_with fail
  refine (played_any w ao n c F hF).mono ?_
  rintro e w1 ⟨pb, mb, rb, last, A, own, rfl, hh, _, hb⟩
  have HB := Lib.hid hb
  clear hb hh hF
  go_wp2_with fail
  refine (works_any _).mono ?_
  rintro e w2 ⟨rfl, hb2⟩
  go_wp2_with fail
  go_ret
  exact ⟨rfl, HB.out.trans (hb2.mono HB.out.size)⟩
end Go.Proofs.Ytmgdbilmfialkaa
