/- The last step of every law, whatever its arguments: it answers true and has turned nothing that was there. -/
import Derived.Test.YtniipdeonahoaaaDoorW6
import Derived.ProofKit
import Derived.OpenShut
import Derived.Deep.DeepHandedRow
import Derived.Lib.LaidTab
import Derived.Lib.SmallJoins
import Derived.Deep.Slices
import Derived.Deep.Fields
namespace Go.Proofs.YtniipdeonahoaaaDoor
open Go.ChangeShapes Go.WideShapes Go.ChangeAt Go.RowKit Go.Deep

section
variable {H : Type} {enc : TypeId × Value → H} {P : Program} {W W' : World} {sp : Nat → Bool}
/-- What was read reads on where the places that it passed hold what they held. -/
theorem trodAll_stays (hl : laidOutB P = true) : ∀ {ts : List TypeId} {vs : List Value} {ds : List (DataW H)} {ps : List MemPlace}, (∀ t ∈ ts, P.readableRec t = true ∧ t < P.types.size) →
    DataW.TrodAll enc P W 0 (fun _ => true) true ts vs ds ps → (∀ x ∈ ps, W.sameAt W' x) → (∀ x ∈ ps, sp x.block = true) → DataW.TrodAll enc P W' 0 sp true ts vs ds ps
  | [], [], [], _, _, h, _, _ => h
  | t :: ts, v :: vs, d :: ds, _, hr, ⟨p, q, h1, h2, e⟩, hs, hsp => by
    subst e
    refine ⟨p, q, ?_, ?_, rfl⟩
    · exact WideElems.Trod_stays hl (hr t (by simp)).1 (hr t (by simp)).2 h1 (fun x hx => hs x (by simp [hx])) (fun x hx => hsp x (by simp [hx]))
    · exact trodAll_stays hl (fun t ht => hr t (by simp [ht])) h2 (fun x hx => hs x (by simp [hx])) (fun x hx => hsp x (by simp [hx]))

/-- THE LAST STEP OF A LAW. -/
theorem law_post {f : Func} {s : ChangeSpec} {args : Array Value} {ds gs : List (DataW H)} {before : List MemPlace} {tb : TypeId}
    (hW : DataW.Whole enc P f.params.toList s.vars false W args.toList ds gs before) (hl : laidOutB P = true) (hr : ∀ t ∈ f.params.toList, P.readableRec t = true ∧ t < P.types.size)
    (hvars : s.vars = []) (hres : f.resultTypes = #[tb]) (htb : P.underlying tb = some .bool)
    (h1 : (s.fn H (ds ++ gs)).results = [.lit (.bool true)]) (h2 : (s.fn H (ds ++ gs)).args = ds) (h3 : (s.fn H (ds ++ gs)).vars = []) (hb : Below W.heap.size W W') :
    s.post enc P f false true false false W args (.bool true) W' := by
  have hlt : ∀ p ∈ before, p.block < W.heap.size := fun p hp => hW.lt p hp
  have hW' := hW
  obtain ⟨p, q, hA, hV, rfl, _, _⟩ := hW
  refine ⟨ds, gs, _, [], p, [], hW', ?_, ?_, ?_, hb.frame _, fun h => by cases h⟩
  · rw [h1, hres]
    exact trodAll_mk1 (shut_bool htb true)
  · rw [h2]
    exact trodAll_stays hl hr hA (fun x hx => hb.same (hlt x (by simp [hx]))) (fun x hx => by simpa using hlt x (by simp [hx]))
  · rw [h3, hvars]
    rfl
end

theorem own : ownKnob Tryd.prog.godebug = none := by kernel_rfl
theorem laidOut : laidOutB Tryd.prog = true := by kernel_rfl
theorem gWays : Tryd.prog.globalNamed "refectory/share.ways" = some 0 := by kernel_rfl
theorem gWaysType : (Tryd.prog.globals[0]?).map (·.type) = some 41 := by kernel_rfl
theorem cells41 : Tryd.prog.cellsOf 41 = 24 := by kernel_rfl
theorem cells40 : Tryd.prog.cellsOf 40 = 4 := by kernel_rfl
theorem cells25 : Tryd.prog.cellsOf 25 = 1 := by kernel_rfl
theorem cells26 : Tryd.prog.cellsOf 26 = 1 := by kernel_rfl
theorem cells31 : Tryd.prog.cellsOf 31 = 2 := by kernel_rfl
theorem cells22 : Tryd.prog.cellsOf 22 = 1 := by kernel_rfl

/-- One entry of the table, opened. -/
theorem way_cells {H : Type} {enc : TypeId × Value → H} {w : World} {base : Nat} {sp : Nat → Bool} {held : Bool} {fuel : Nat} {cs : List Value} {a b c d : Int} {x : DataW H × List MemPlace}
    (h : DataW.trod enc Tryd.prog w base sp held fuel 40 cs = some x) (hx : x.1 = .agg [.lit (.int .u8 a), .lit (.int .u8 b), .lit (.int .i64 c), .lit (.int .i64 d)]) :
    cs = [.int .u8 a, .int .u8 b, .int .i64 c, .int .i64 d] := by
  obtain ⟨xs, n, _, rfl, hl, hlen, hf⟩ := DataW.trod_struct Tryd.underlying40 h
  rw [cells40] at hl
  match cs, hl with
  | [c0, c1, c2, c3], _ =>
    match xs, hlen with
    | [y0, y1, y2, y3], _ =>
      simp only [List.map_cons, List.map_nil, DataW.agg.injEq, List.cons.injEq, and_true] at hx
      obtain ⟨e0, e1, e2, e3⟩ := hx
      have f0 := hf 0 _ rfl
      have f1 := hf 1 _ rfl
      have f2 := hf 2 _ rfl
      have f3 := hf 3 _ rfl
      simp [cells25, cells26] at f0 f1 f2 f3
      obtain ⟨z0, g0, rfl, _⟩ := DataW.trod_int Tryd.underlying25 f0
      obtain ⟨z1, g1, rfl, _⟩ := DataW.trod_int Tryd.underlying25 f1
      obtain ⟨z2, g2, rfl, _⟩ := DataW.trod_int Tryd.underlying26 f2
      obtain ⟨z3, g3, rfl, _⟩ := DataW.trod_int Tryd.underlying26 f3
      simp at g0 g1 g2 g3 e0 e1 e2 e3
      subst g0 g1 g2 g3 e0 e1 e2 e3
      rfl

/-- WHAT THE ROW's LIST GIVES. -/
theorem table {W : World} (h : laidMet Tryd.prog [("refectory/share.ways", Rows.laid_refectory_share_ways)] W) : Tab W := by
  obtain ⟨ps, ⟨g', t', cs, fuel, p, q, hg', ht', hvar, hd, _, _⟩, _⟩ := h
  obtain rfl := Option.some.inj (gWays.symm.trans hg')
  obtain rfl := Option.some.inj (gWaysType.symm.trans ht')
  obtain ⟨xs, m, _, hx, hl, hlen, hf⟩ := DataW.trod_array Tryd.underlying41 hd
  rw [cells41] at hl
  match xs, hlen with
  | [x0, x1, x2, x3, x4, x5], _ =>
    have hx1 := (congrArg Prod.fst hx).symm
    simp only [Rows.laid_refectory_share_ways, List.map_cons, List.map_nil, DataW.agg.injEq, List.cons.injEq, and_true] at hx1
    obtain ⟨e0, e1, e2, e3, e4, e5⟩ := hx1
    have k0 := way_cells (hf 0 (by omega)) e0
    have k1 := way_cells (hf 1 (by omega)) e1
    have k2 := way_cells (hf 2 (by omega)) e2
    have k3 := way_cells (hf 3 (by omega)) e3
    have k4 := way_cells (hf 4 (by omega)) e4
    have k5 := way_cells (hf 5 (by omega)) e5
    simp only [cells40] at k0 k1 k2 k3 k4 k5
    have hcs : cs.toList = wayCells := by
      match hl' : cs.toList, hl with
      | [_, _, _, _, _, _, _, _, _, _, _, _, _, _, _, _, _, _, _, _, _, _, _, _], _ =>
        rw [hl'] at k0 k1 k2 k3 k4 k5
        simp at k0 k1 k2 k3 k4 k5
        simp [wayCells, k0, k1, k2, k3, k4, k5]
    intro j v hj
    have := World.var?_cell gWays hvar j
    rw [this, ← Array.getElem?_toList, hcs]
    exact hj
end Go.Proofs.YtniipdeonahoaaaDoor
