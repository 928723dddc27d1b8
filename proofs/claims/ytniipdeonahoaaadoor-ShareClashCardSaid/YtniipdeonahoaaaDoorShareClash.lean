/- ShareClash: for every input the law answers true, and each argument reads behind the call as it read before; no condition. The listed table reads as the program's text lays it: the card ties that to the text. -/
import Derived.Test.YtniipdeonahoaaaDoorW7
import Derived.Test.YtniipdeonahoaaaDoorCards
import Derived.Test.YtniipdeonahoaaaDoorTie
namespace Go.Proofs.YtniipdeonahoaaaDoor.shareClash
open Go.ChangeShapes Go.WideShapes Go.ChangeAt Go.RowKit Go.Joins

theorem contract (H : Type) (enc : TypeId × Value → H) (W : World) (base : Nat) (args : Array Value) (ds gs : List (DataW H)) (before : List MemPlace)
    (hval : ∀ (j : Nat) t v, Tryd.f8.params[j]? = some t → args[j]? = some v → Value.okWide Tryd.prog W .any base t v)
    (hW : DataW.Whole enc Tryd.prog Tryd.f8.params.toList Rows.shareClashSpec.vars false W args.toList ds gs before) (hL : laidMetH Tryd.prog Rows.shareClashRow.laid W) :
    Calls Tryd.prog 8 args W fun e W' => ∃ v, e = .returned v ∧ Rows.shareClashSpec.post enc Tryd.prog Tryd.f8 false true false false W args v W' := by
  have hT : Tab W := table hL
  have hW' := hW
  obtain ⟨p, q, hA0, hV, rfl, hfz, hnd⟩ := hW
  have hA : DataW.TrodAll enc Tryd.prog W 0 (fun _ => true) true Tryd.f8.params.toList args.toList ds p := hA0
  rw [Tryd.params8] at hA hval
  obtain ⟨v0, vs0, d0, ds0, p0, q0, hargs, rfl, rfl, h0, r0⟩ := trodAll_cons hA
  obtain ⟨v1, vs1, d1, ds1, p1, q1, rfl, rfl, rfl, h1, r1⟩ := trodAll_cons r0
  obtain ⟨v2, vs2, d2, ds2, p2, q2, rfl, rfl, rfl, h2, r2⟩ := trodAll_cons r1
  obtain ⟨rfl, rfl, rfl⟩ := trodAll_nil r2
  obtain rfl : args = #[v0, v1, v2] := by cases args; simp_all
  obtain ⟨rfl, rfl⟩ := trodVars_none hV
  have done : ∀ W', Below W.heap.size W W' → Rows.shareClashSpec.post enc Tryd.prog Tryd.f8 false true false false W #[v0, v1, v2] (.bool true) W' := fun W' hb =>
    law_post hW' laidOut (by rw [Tryd.params8]; intro t ht; simp at ht; rcases ht with rfl | rfl <;> exact ⟨by kernel_rfl, of_decide_eq_true (by kernel_rfl)⟩) rfl rfl Tryd.underlying4 rfl rfl rfl hb
  clear hA0 hW'
  obtain ⟨x0, z0, y0, t0, m0, rfl, rfl, rfl, hx0, hz0⟩ := open_agg2 Tryd.underlying31 (by kernel_rfl) cells31 (hval 0 31 v0 rfl rfl) h0
  obtain ⟨a0, e0, rfl, w0⟩ := DataW.trod_int Tryd.underlying22 hx0
  obtain ⟨b0, g0, rfl, k0⟩ := DataW.trod_int Tryd.underlying22 hz0
  simp only [List.cons.injEq, and_true] at e0 g0
  subst e0 g0
  obtain ⟨l0, u0⟩ := bounds_u32 w0
  obtain ⟨j0, o0⟩ := bounds_u32 k0
  obtain ⟨x1, z1, y1, t1, m1, rfl, rfl, rfl, hx1, hz1⟩ := open_agg2 Tryd.underlying31 (by kernel_rfl) cells31 (hval 1 31 v1 rfl rfl) h1
  obtain ⟨a1, e1, rfl, w1⟩ := DataW.trod_int Tryd.underlying22 hx1
  obtain ⟨b1, g1, rfl, k1⟩ := DataW.trod_int Tryd.underlying22 hz1
  simp only [List.cons.injEq, and_true] at e1 g1
  subst e1 g1
  obtain ⟨l1, u1⟩ := bounds_u32 w1
  obtain ⟨j1, o1⟩ := bounds_u32 k1
  obtain ⟨ao2, n2, c2, rfl⟩ := okWide_slice Tryd.underlying35 (hval 2 35 v2 rfl rfl)
  obtain ⟨A2, S2, hM2, hn2⟩ := modes_of h2
  refine (ShareClash_walk a0 b0 a1 b1 ao2 n2 c2 A2 S2 W hT l0 u0 j0 o0 l1 u1 j1 o1 hM2 hn2).mono fun e W' ⟨he, hb⟩ => ?_
  subst he
  exact ⟨_, rfl, done W' hb⟩

/-- A world for the witness: the settled one, the table holding what its initialiser lays. -/
noncomputable def laidWorld (os : Os) : World :=
  { World.holding Tryd.prog os ⟨#[], #[], []⟩ with heap := (World.holding Tryd.prog os ⟨#[], #[], []⟩).heap.modify 0 fun
      | .cells _ t frozen => .cells wayCells.toArray t frozen
      | o => o }
theorem laid_met (os : Os) : laidMet Tryd.prog Rows.shareClashRow.laid ((laidWorld os).forCall (fun _ _ => 0) ⟨#[], #[.agg #[.int .u32 0, .int .u32 0], .agg #[.int .u32 0, .int .u32 0], .slice none 0 0], []⟩).memory :=
  laidMet_of_run' 8 (by kernel_rfl) (by kernel_rfl)
theorem reads (os : Os) {H : Type} (enc : TypeId × Value → H) : ∃ places, DataW.whole enc Tryd.prog ((laidWorld os).forCall (fun _ _ => 0) ⟨#[], #[.agg #[.int .u32 0, .int .u32 0], .agg #[.int .u32 0, .int .u32 0], .slice none 0 0], []⟩).memory Tryd.f8.params.toList Rows.shareClashSpec.vars false #[(Value.agg #[.int .u32 0, .int .u32 0]), .agg #[.int .u32 0, .int .u32 0], .slice none 0 0].toList 8 = some ([.agg [.lit (.int .u32 0), .lit (.int .u32 0)], .agg [.lit (.int .u32 0), .lit (.int .u32 0)], .nil], [], places) :=
  ⟨[], by kernel_rfl⟩

set_option maxRecDepth 100000 in
theorem lifted (os : Os) (started : os.Started) (H : Type) (enc : TypeId × Value → H) (F : Stop.Interp) :
    ReturnsInHanded {} Tryd.checked os 8 .any ((OpenSpec.ofChange Rows.shareClashSpec).preRow enc Tryd.prog Tryd.f8 Rows.shareClashRow.domain false Rows.shareClashRow.laid) (((OpenSpec.ofChange Rows.shareClashSpec).at F).post enc Tryd.prog Tryd.f8 false true false false) := by
  obtain ⟨places, hx⟩ := reads os enc
  refine returnsInHanded_of_row (C := Tryd.checked) (s := OpenSpec.ofChange Rows.shareClashSpec) own started (by kernel_rfl) Tryd.func8
    (witness_row_at (enc := enc) (C := Tryd.checked) false (laidWorld os) #[.agg #[.int .u32 0, .int .u32 0], .agg #[.int .u32 0, .int .u32 0], .slice none 0 0] rfl (by kernel_rfl) (by kernel_rfl) (by kernel_rfl)
      (OpenSpec.preRow_of_cond 8 hx (by kernel_rfl) (fun k hk => by cases hk) (by kernel_rfl) (laid_met os))) ?_
  intro W base args ds gs before hval hW _ _ _ hL _ _
  exact contract H enc W base args ds gs before hval hW hL

theorem said : Rows.ShareClashSaid :=
  OpenClaim.holds_of_cond 8 Tryd.f8 rfl rfl rfl rfl rfl rfl rfl ⟨rfl, rfl, rfl, rfl, rfl⟩ rfl rfl rfl rfl rfl (by kernel_rfl) Tryd.func8 (by kernel_rfl)
    (of_decide_eq_true (by kernel_rfl)) (by unfold Func.isWrapper; first | (rw [if_pos (by decide +kernel)]; kernel_rfl) | (rw [if_neg (by decide +kernel)]; exact ⟨rfl, rfl⟩))
    (fun os started H enc _ F => by rw [OpenClaim.pre_eq_preRow]; exact lifted os started H enc F)

/-- No parameter wants a stand-in; the program's own looks are off. -/
theorem plain (f : FuncId) (fn : Func) (hf : Tryd.pinned.checked.prog.funcNamed "refectory/refectorylaw17.ShareClash" = some f) (hfn : Tryd.pinned.checked.prog.funcs[f]? = some fn) :
    false = Tryd.pinned.checked.prog.looks [] ∧ ∀ (j : Nat) t, fn.params[j]? = some t → Tryd.pinned.checked.prog.wantsStandIn t = false := by
  obtain rfl : f = 8 := Option.some.inj ((show Tryd.prog.funcNamed "refectory/refectorylaw17.ShareClash" = some 8 by kernel_rfl).symm.trans hf) |>.symm
  obtain rfl : fn = Tryd.f8 := (Option.some.inj (Tryd.func8.symm.trans hfn)).symm
  refine ⟨by kernel_rfl, fun j t ht => ?_⟩
  rw [Tryd.params8] at ht
  have hm := Array.mem_of_getElem? ht
  simp at hm
  rcases hm with rfl | rfl
  · exact (show Tryd.prog.wantsStandIn 31 = false by kernel_rfl)
  · exact (show Tryd.prog.wantsStandIn 35 = false by kernel_rfl)

end Go.Proofs.YtniipdeonahoaaaDoor.shareClash
namespace Go.Proofs.YtniipdeonahoaaaDoor
theorem shareClash_card_holds : Rows.ShareClashCardSaid :=
  Claim7.holds_tied_plain_at .later [] _ _ _ _ shareClash.said (fun _ h => by cases h) (by kernel_rfl) (fun _ h => by cases h) shareClash_row_tie rfl ⟨rfl, rfl⟩ (by kernel_rfl) rfl shareClash.plain (by kernel_rfl)
#print axioms shareClash_card_holds
end Go.Proofs.YtniipdeonahoaaaDoor
