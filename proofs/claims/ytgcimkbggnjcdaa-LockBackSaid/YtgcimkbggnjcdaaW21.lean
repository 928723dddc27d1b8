/- LockPlays, LockBars, LockCloses, by walks over the contracts. -/
import Derived.Test.YtgcimkbggnjcdaaW20
namespace Go.Proofs.Ytgcimkbggnjcdaa
open Go.RowKit Go.WideShapes

theorem LockPlays_walk (ao : Option Addr) (n c : Nat) (A : Nat → ActV) (w : World) (hA : Acts w ao n A) (hn : n ≤ 9223372036854775807) :
    Calls Try.prog 3 #[.slice ao n c] w fun e w' => e = .returned (.bool true) ∧ Below w.heap.size w w' := by
  go_enter Try.func3, Try.ntmps3
  go_wp2_with fail
  refine (played_any w ao n c A hA hn).mono ?_
  rintro e w1 ⟨pb, rb, S, qo, qc, bo, d, rfl, hh, hi, hb⟩
  have HB := Lib.hid hb
  clear hb hh hA
  go_wp2_with fail
  refine (works_any _).mono ?_
  rintro e w2 ⟨rfl, hb2⟩
  go_wp2_with fail
  go_ret
  exact ⟨rfl, HB.out.trans (hb2.mono HB.out.size)⟩

set_option maxHeartbeats 1000000 in
theorem LockBars_walk (ao : Option Addr) (n c : Nat) (A : Nat → ActV) (op : Int) (bw : Bool) (a m : Nat) (w : World) (hA : Acts w ao n A) (hn : n ≤ 9223372036854775807) (_ : -9223372036854775808 ≤ op) (_ : op ≤ 9223372036854775807) (_ : a < 18446744073709551616) (hm : m < 18446744073709551616) :
    Calls Try.prog 8 #[.slice ao n c, .int .i64 op, .bool bw, .int .u64 (a : Int), .int .u64 (m : Int)] w fun e w' => e = .returned (.bool true) ∧ Below w.heap.size w w' := by
  go_enter Try.func8, Try.ntmps8
  go_wp2_with fail
  refine (played_any w ao n c A hA hn).mono ?_
  rintro e w1 ⟨pb, rb, S, qo, qc, bo, d, rfl, hh, hi, hb⟩
  have HB1 := Lib.hid hb
  have HH1 := Lib.hid hh
  obtain ⟨z, hz⟩ : ∃ z, barsR S op bw a m = z := ⟨_, rfl⟩
  have HZ := Lib.hid hz
  clear hb hh hA hz hi
  go_wp2_with fail
  refine (bars_any w.heap.size w1 pb S qo qc op bw a m HH1.out.t hm).mono ?_
  rw [HZ.out]
  rintro e w2 ⟨rfl, hb2⟩
  have HB2 : Hid (Below w.heap.size w w2) := HB1.out.trans (hb2.mono HB1.out.size)
  have HH2 := Lib.hid (HH1.out.below hb2)
  clear hb2
  go_wp2_with fail
  refine (rbars_any w.heap.size w2 rb S bo d op bw a m HH2.out.r hm).mono ?_
  rw [HZ.out]
  rintro e w3 ⟨rfl, hb3⟩
  have HB3 : Hid (Below w.heap.size w w3) := HB2.out.trans (hb3.mono HB2.out.size)
  have HH3 := Lib.hid (HH2.out.below hb3)
  clear hb3
  go_wp2_with fail
  refine (of_any w.heap.size w3 pb S qo qc op HH3.out.t).mono ?_
  rintro e w4 ⟨rfl, hb4⟩
  have HB4 : Hid (Below w.heap.size w w4) := HB3.out.trans (hb4.mono HB3.out.size)
  have HH4 := Lib.hid (HH3.out.below hb4)
  clear hb4
  go_wp2_with fail
  refine (rof_any w.heap.size w4 rb S bo d op HH4.out.r).mono ?_
  rintro e w5 ⟨rfl, rfl⟩
  go_wp2_with fail
  refine (works_any _).mono ?_
  rintro e w6 ⟨rfl, hb6⟩
  go_wp2_with fail
  go_ret
  exact ⟨rfl, HB4.out.trans (hb6.mono HB4.out.size)⟩
end Go.Proofs.Ytgcimkbggnjcdaa
