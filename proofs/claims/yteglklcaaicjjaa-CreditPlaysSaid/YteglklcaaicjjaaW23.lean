/- CreditPlays, by a walk. -/
import Derived.Test.YteglklcaaicjjaaW22
namespace Go.Proofs.Yteglklcaaicjjaa
open Go.RowKit Go.Maps

theorem CreditPlays_walk (most : Int) (ao : Option Addr) (n c : Nat) (A : Nat → ActV) (w : World) (_ : -9223372036854775808 ≤ most) (_ : most ≤ 9223372036854775807) (hA : Acts w ao n A) (hn : n ≤ 9223372036854775807) :
    Calls Try.prog 5 #[.int .i64 most, .slice ao n c] w fun e w' => e = .returned (.bool true) ∧ Below w.heap.size w w' := by
  by_cases hm : most < 1 ∨ 64 < most
  · go_enter Try.func5, Try.ntmps5
    go_wp2_with fail
    refine (played_bad most ao n c w hm).mono ?_
    rintro e w1 ⟨rfl, rfl⟩
    clear hm
    go_wp2_with (first | (go_at_call 11; refine (works_any _).mono ?_; rintro e w2 ⟨rfl, hb⟩))
    go_ret
    exact ⟨rfl, hb⟩
  · go_enter Try.func5, Try.ntmps5
    go_wp2_with fail
    refine (played_good most ao n c A w hA hn (by omega) (by omega)).mono ?_
    rintro e w1 ⟨pb, mb, rb, next, S, rfl, he, _, hb1⟩
    clear hm he
    go_wp2_with (first | (go_at_call 11; refine (works_any _).mono ?_; rintro e w2 ⟨rfl, hb⟩))
    go_ret
    exact ⟨rfl, hb1.trans (hb.mono hb1.size)⟩
end Go.Proofs.Yteglklcaaicjjaa
