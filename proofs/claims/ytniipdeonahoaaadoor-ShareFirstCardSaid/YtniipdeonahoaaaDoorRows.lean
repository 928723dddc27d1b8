/-
  NARROWER THAN 'FOR EVERY INPUT', by the rows' own cells (each row's printed sentence says how): ShareMay: laid · ShareDoes: laid · ShareBoth: laid · ShareLess: laid · ShareWays: laid · ShareClash: laid · ShareFirst: laid.
  DERIVED. THE GIVEN ROWS OF THIS SEAT. 7 by the template 'for every input the law returns true; each argument reads behind the call as it read before'; 0 by the template 'total and deterministic' (their statements: YtniipdeonahoaaaDoorTotals.lean).
  GIVEN WITH THE SEED: the statements are not yours to turn. If you find one false, say at which input.
  Laid BY PROGRAM, IN A SANDBOX (cutbox-rows.mjs): the forced cells as the released guide's own fill.sh prints them over the translation 5da4de75c31fb006… (all of the seat's roots in one cut). By AI agents, Wed Nov 11 2026. No macro, syntax, notation, axiom, sorry.
-/
import Derived.Test.YtniipdeonahoaaaDoorChecked
import GoSem.Claim
import GoSem.ClaimJoined
import GoSem.ClaimMapViews
import Derived.JoinedTies
import Derived.KernelRfl
namespace Go.Proofs.YtniipdeonahoaaaDoor
/- THE CELL 'sum', in the pinned program and in every row, IS THE sha256 OF THE DUMP (.gsa) THAT YtniipdeonahoaaaDoorProg.lean LOADS. Nothing in Lean hashes anything: it is a label: what it is worth is what the hold of that sum in a sandbox is worth. -/
noncomputable def Tryd.pinned : Pinned := { name := "ytniipdeonahoaaadoor", sum := "5da4de75c31fb006a07e55de6899c899f1a2dd4df95e21b8cf1430d8ba78e22b", checked := Tryd.checked }
namespace Rows
def none {H : Type} : Left H := { results := [], args := [] }

/- WHAT THE LISTED PACKAGE-LEVEL VARIABLES READ AS WHEN THE CALL BEGINS. Each datum BY PROGRAM (the guide's laid-datum.mjs) off the statement by which the dump's own 'gosem.cut.vars' lays the variable. In a bare row this is a premise. The card (YtniipdeonahoaaaDoorCards.lean) ties it to the program's text. -/
def laid_refectory_share_ways {H : Type} : DataW H := .agg [.agg [.lit (.int .u8 0), .lit (.int .u8 0), .lit (.int .i64 2), .lit (.int .i64 2)], .agg [.lit (.int .u8 0), .lit (.int .u8 0), .lit (.int .i64 0), .lit (.int .i64 7)], .agg [.lit (.int .u8 0), .lit (.int .u8 1), .lit (.int .i64 8), .lit (.int .i64 0)], .agg [.lit (.int .u8 0), .lit (.int .u8 1), .lit (.int .i64 0), .lit (.int .i64 0)], .agg [.lit (.int .u8 2), .lit (.int .u8 0), .lit (.int .i64 0), .lit (.int .i64 7)], .agg [.lit (.int .u8 2), .lit (.int .u8 1), .lit (.int .i64 0), .lit (.int .i64 0)]]

/-- 'refectorylaw17.ShareMay': WHATEVER THE INPUT: true; the input reads as it did. -/
def shareMaySpec : ChangeSpec := { name := "shareMay", fn := fun _ => fun
  | [d1, d2, d3, d4] => { results := [.lit (.bool true)], args := [d1, d2, d3, d4] }
  | _ => none }
def shareMayRow : OpenClaim := { program := "ytniipdeonahoaaadoor", sum := "5da4de75c31fb006a07e55de6899c899f1a2dd4df95e21b8cf1430d8ba78e22b", func := "refectory/refectorylaw17.ShareMay", spec := "shareMay", named := ["refectory/share.ways"], apart := false, laid := [("refectory/share.ways", laid_refectory_share_ways)] }
def ShareMaySaid : Prop := shareMayRow.holds Tryd.pinned (OpenSpec.ofChange shareMaySpec)

/-- ITS FALSE NEIGHBOUR: 'it returns false'. Refute it at one input. -/
def shareMayWrong : ChangeSpec := { name := "shareMay", fn := fun _ => fun
  | [d1, d2, d3, d4] => { results := [.lit (.bool false)], args := [d1, d2, d3, d4] }
  | _ => none }
def ShareMayWrongFalsely : Prop := shareMayRow.holds Tryd.pinned (OpenSpec.ofChange shareMayWrong)

/-- 'refectorylaw17.ShareDoes': WHATEVER THE INPUT: true; the input reads as it did. -/
def shareDoesSpec : ChangeSpec := { name := "shareDoes", fn := fun _ => fun
  | [d1, d2] => { results := [.lit (.bool true)], args := [d1, d2] }
  | _ => none }
def shareDoesRow : OpenClaim := { program := "ytniipdeonahoaaadoor", sum := "5da4de75c31fb006a07e55de6899c899f1a2dd4df95e21b8cf1430d8ba78e22b", func := "refectory/refectorylaw17.ShareDoes", spec := "shareDoes", named := ["refectory/share.ways"], apart := false, laid := [("refectory/share.ways", laid_refectory_share_ways)] }
def ShareDoesSaid : Prop := shareDoesRow.holds Tryd.pinned (OpenSpec.ofChange shareDoesSpec)

/-- ITS FALSE NEIGHBOUR: 'it returns false'. Refute it at one input. -/
def shareDoesWrong : ChangeSpec := { name := "shareDoes", fn := fun _ => fun
  | [d1, d2] => { results := [.lit (.bool false)], args := [d1, d2] }
  | _ => none }
def ShareDoesWrongFalsely : Prop := shareDoesRow.holds Tryd.pinned (OpenSpec.ofChange shareDoesWrong)

/-- 'refectorylaw17.ShareBoth': WHATEVER THE INPUT: true; the input reads as it did. -/
def shareBothSpec : ChangeSpec := { name := "shareBoth", fn := fun _ => fun
  | [d1, d2] => { results := [.lit (.bool true)], args := [d1, d2] }
  | _ => none }
def shareBothRow : OpenClaim := { program := "ytniipdeonahoaaadoor", sum := "5da4de75c31fb006a07e55de6899c899f1a2dd4df95e21b8cf1430d8ba78e22b", func := "refectory/refectorylaw17.ShareBoth", spec := "shareBoth", named := ["refectory/share.ways"], apart := false, laid := [("refectory/share.ways", laid_refectory_share_ways)] }
def ShareBothSaid : Prop := shareBothRow.holds Tryd.pinned (OpenSpec.ofChange shareBothSpec)

/-- ITS FALSE NEIGHBOUR: 'it returns false'. Refute it at one input. -/
def shareBothWrong : ChangeSpec := { name := "shareBoth", fn := fun _ => fun
  | [d1, d2] => { results := [.lit (.bool false)], args := [d1, d2] }
  | _ => none }
def ShareBothWrongFalsely : Prop := shareBothRow.holds Tryd.pinned (OpenSpec.ofChange shareBothWrong)

/-- 'refectorylaw17.ShareLess': WHATEVER THE INPUT: true; the input reads as it did. -/
def shareLessSpec : ChangeSpec := { name := "shareLess", fn := fun _ => fun
  | [d1, d2, d3, d4] => { results := [.lit (.bool true)], args := [d1, d2, d3, d4] }
  | _ => none }
def shareLessRow : OpenClaim := { program := "ytniipdeonahoaaadoor", sum := "5da4de75c31fb006a07e55de6899c899f1a2dd4df95e21b8cf1430d8ba78e22b", func := "refectory/refectorylaw17.ShareLess", spec := "shareLess", named := ["refectory/share.ways"], apart := false, laid := [("refectory/share.ways", laid_refectory_share_ways)] }
def ShareLessSaid : Prop := shareLessRow.holds Tryd.pinned (OpenSpec.ofChange shareLessSpec)

/-- ITS FALSE NEIGHBOUR: 'it returns false'. Refute it at one input. -/
def shareLessWrong : ChangeSpec := { name := "shareLess", fn := fun _ => fun
  | [d1, d2, d3, d4] => { results := [.lit (.bool false)], args := [d1, d2, d3, d4] }
  | _ => none }
def ShareLessWrongFalsely : Prop := shareLessRow.holds Tryd.pinned (OpenSpec.ofChange shareLessWrong)

/-- 'refectorylaw17.ShareWays': WHATEVER THE INPUT: true; the input reads as it did. -/
def shareWaysSpec : ChangeSpec := { name := "shareWays", fn := fun _ => fun
  | [d] => { results := [.lit (.bool true)], args := [d] }
  | _ => none }
def shareWaysRow : OpenClaim := { program := "ytniipdeonahoaaadoor", sum := "5da4de75c31fb006a07e55de6899c899f1a2dd4df95e21b8cf1430d8ba78e22b", func := "refectory/refectorylaw17.ShareWays", spec := "shareWays", named := ["refectory/share.ways"], apart := false, laid := [("refectory/share.ways", laid_refectory_share_ways)] }
def ShareWaysSaid : Prop := shareWaysRow.holds Tryd.pinned (OpenSpec.ofChange shareWaysSpec)

/-- ITS FALSE NEIGHBOUR: 'it returns false'. Refute it at one input. -/
def shareWaysWrong : ChangeSpec := { name := "shareWays", fn := fun _ => fun
  | [d] => { results := [.lit (.bool false)], args := [d] }
  | _ => none }
def ShareWaysWrongFalsely : Prop := shareWaysRow.holds Tryd.pinned (OpenSpec.ofChange shareWaysWrong)

/-- 'refectorylaw17.ShareClash': WHATEVER THE INPUT: true; the input reads as it did. -/
def shareClashSpec : ChangeSpec := { name := "shareClash", fn := fun _ => fun
  | [d1, d2, d3] => { results := [.lit (.bool true)], args := [d1, d2, d3] }
  | _ => none }
def shareClashRow : OpenClaim := { program := "ytniipdeonahoaaadoor", sum := "5da4de75c31fb006a07e55de6899c899f1a2dd4df95e21b8cf1430d8ba78e22b", func := "refectory/refectorylaw17.ShareClash", spec := "shareClash", unfollowed := true, recurses := true, named := ["refectory/share.ways"], apart := false, laid := [("refectory/share.ways", laid_refectory_share_ways)] }
def ShareClashSaid : Prop := shareClashRow.holds Tryd.pinned (OpenSpec.ofChange shareClashSpec)

/-- ITS FALSE NEIGHBOUR: 'it returns false'. Refute it at one input. -/
def shareClashWrong : ChangeSpec := { name := "shareClash", fn := fun _ => fun
  | [d1, d2, d3] => { results := [.lit (.bool false)], args := [d1, d2, d3] }
  | _ => none }
def ShareClashWrongFalsely : Prop := shareClashRow.holds Tryd.pinned (OpenSpec.ofChange shareClashWrong)

/-- 'refectorylaw17.ShareFirst': WHATEVER THE INPUT: true; the input reads as it did. -/
def shareFirstSpec : ChangeSpec := { name := "shareFirst", fn := fun _ => fun
  | [d1, d2] => { results := [.lit (.bool true)], args := [d1, d2] }
  | _ => none }
def shareFirstRow : OpenClaim := { program := "ytniipdeonahoaaadoor", sum := "5da4de75c31fb006a07e55de6899c899f1a2dd4df95e21b8cf1430d8ba78e22b", func := "refectory/refectorylaw17.ShareFirst", spec := "shareFirst", unfollowed := true, recurses := true, named := ["refectory/share.ways"], apart := false, laid := [("refectory/share.ways", laid_refectory_share_ways)] }
def ShareFirstSaid : Prop := shareFirstRow.holds Tryd.pinned (OpenSpec.ofChange shareFirstSpec)

/-- ITS FALSE NEIGHBOUR: 'it returns false'. Refute it at one input. -/
def shareFirstWrong : ChangeSpec := { name := "shareFirst", fn := fun _ => fun
  | [d1, d2] => { results := [.lit (.bool false)], args := [d1, d2] }
  | _ => none }
def ShareFirstWrongFalsely : Prop := shareFirstRow.holds Tryd.pinned (OpenSpec.ofChange shareFirstWrong)

/- THE SECOND FORM. 'bulk': how many values and letters a reading holds, each counted each time it is reached (what is shared counts as often as it is met; a slice's spare places count too). A statement '..UptoSaid' is the law's where the arguments, and the package variables that the reading takes, are together of bulk at most 1048576: NARROWER than '..Said'. Prove '..Said' where nothing that the law and all that it calls make is longer than what came in: it says more and counts as full. Else prove '..UptoSaid'. A law counts once. -/
mutual
def uptoBulk {H : Type} : DataW H → Nat
  | .lit (.string bytes) => bytes.length + 1
  | .lit _ => 1
  | .nil => 1
  | .ptr d => uptoBulk d + 1
  | .slice elems spare => uptoBulkAll elems + uptoBulkAll spare + 1
  | .agg parts => uptoBulkAll parts + 1
  | .iface _ d => uptoBulk d + 1
  | .map entries => uptoBulkEntries entries + 1
  | .held _ => 1
def uptoBulkAll {H : Type} : List (DataW H) → Nat
  | [] => 0
  | d :: r => uptoBulk d + uptoBulkAll r
def uptoBulkEntries {H : Type} : List (Lit × DataW H) → Nat
  | [] => 0
  | x :: r => uptoBulkEntry x + uptoBulkEntries r
def uptoBulkEntry {H : Type} : Lit × DataW H → Nat
  | (.string bytes, d) => bytes.length + uptoBulk d + 1
  | (_, d) => uptoBulk d + 1
 end
def uptoSmall : (H : Type) → List (DataW H) → Bool := fun _ ds => decide (uptoBulkAll ds ≤ 1048576)
def OpenSpec.upto (s : _root_.Go.ChangeSpec) : _root_.Go.OpenSpec := { _root_.Go.OpenSpec.ofChange s with cond := some uptoSmall }

/-- 'refectorylaw17.ShareMay', WHERE WHAT IT READS IS OF BULK AT MOST 1048576: true; the input reads as it did. -/
def shareMayUptoRow : OpenClaim := { program := "ytniipdeonahoaaadoor", sum := "5da4de75c31fb006a07e55de6899c899f1a2dd4df95e21b8cf1430d8ba78e22b", func := "refectory/refectorylaw17.ShareMay", spec := "shareMay", named := ["refectory/share.ways"], apart := false, laid := [("refectory/share.ways", laid_refectory_share_ways)], narrowed := true }
def ShareMayUptoSaid : Prop := shareMayUptoRow.holds Tryd.pinned (OpenSpec.upto shareMaySpec)

/-- 'refectorylaw17.ShareDoes', WHERE WHAT IT READS IS OF BULK AT MOST 1048576: true; the input reads as it did. -/
def shareDoesUptoRow : OpenClaim := { program := "ytniipdeonahoaaadoor", sum := "5da4de75c31fb006a07e55de6899c899f1a2dd4df95e21b8cf1430d8ba78e22b", func := "refectory/refectorylaw17.ShareDoes", spec := "shareDoes", named := ["refectory/share.ways"], apart := false, laid := [("refectory/share.ways", laid_refectory_share_ways)], narrowed := true }
def ShareDoesUptoSaid : Prop := shareDoesUptoRow.holds Tryd.pinned (OpenSpec.upto shareDoesSpec)

/-- 'refectorylaw17.ShareBoth', WHERE WHAT IT READS IS OF BULK AT MOST 1048576: true; the input reads as it did. -/
def shareBothUptoRow : OpenClaim := { program := "ytniipdeonahoaaadoor", sum := "5da4de75c31fb006a07e55de6899c899f1a2dd4df95e21b8cf1430d8ba78e22b", func := "refectory/refectorylaw17.ShareBoth", spec := "shareBoth", named := ["refectory/share.ways"], apart := false, laid := [("refectory/share.ways", laid_refectory_share_ways)], narrowed := true }
def ShareBothUptoSaid : Prop := shareBothUptoRow.holds Tryd.pinned (OpenSpec.upto shareBothSpec)

/-- 'refectorylaw17.ShareLess', WHERE WHAT IT READS IS OF BULK AT MOST 1048576: true; the input reads as it did. -/
def shareLessUptoRow : OpenClaim := { program := "ytniipdeonahoaaadoor", sum := "5da4de75c31fb006a07e55de6899c899f1a2dd4df95e21b8cf1430d8ba78e22b", func := "refectory/refectorylaw17.ShareLess", spec := "shareLess", named := ["refectory/share.ways"], apart := false, laid := [("refectory/share.ways", laid_refectory_share_ways)], narrowed := true }
def ShareLessUptoSaid : Prop := shareLessUptoRow.holds Tryd.pinned (OpenSpec.upto shareLessSpec)

/-- 'refectorylaw17.ShareWays', WHERE WHAT IT READS IS OF BULK AT MOST 1048576: true; the input reads as it did. -/
def shareWaysUptoRow : OpenClaim := { program := "ytniipdeonahoaaadoor", sum := "5da4de75c31fb006a07e55de6899c899f1a2dd4df95e21b8cf1430d8ba78e22b", func := "refectory/refectorylaw17.ShareWays", spec := "shareWays", named := ["refectory/share.ways"], apart := false, laid := [("refectory/share.ways", laid_refectory_share_ways)], narrowed := true }
def ShareWaysUptoSaid : Prop := shareWaysUptoRow.holds Tryd.pinned (OpenSpec.upto shareWaysSpec)

/-- 'refectorylaw17.ShareClash', WHERE WHAT IT READS IS OF BULK AT MOST 1048576: true; the input reads as it did. -/
def shareClashUptoRow : OpenClaim := { program := "ytniipdeonahoaaadoor", sum := "5da4de75c31fb006a07e55de6899c899f1a2dd4df95e21b8cf1430d8ba78e22b", func := "refectory/refectorylaw17.ShareClash", spec := "shareClash", unfollowed := true, recurses := true, named := ["refectory/share.ways"], apart := false, laid := [("refectory/share.ways", laid_refectory_share_ways)], narrowed := true }
def ShareClashUptoSaid : Prop := shareClashUptoRow.holds Tryd.pinned (OpenSpec.upto shareClashSpec)

/-- 'refectorylaw17.ShareFirst', WHERE WHAT IT READS IS OF BULK AT MOST 1048576: true; the input reads as it did. -/
def shareFirstUptoRow : OpenClaim := { program := "ytniipdeonahoaaadoor", sum := "5da4de75c31fb006a07e55de6899c899f1a2dd4df95e21b8cf1430d8ba78e22b", func := "refectory/refectorylaw17.ShareFirst", spec := "shareFirst", unfollowed := true, recurses := true, named := ["refectory/share.ways"], apart := false, laid := [("refectory/share.ways", laid_refectory_share_ways)], narrowed := true }
def ShareFirstUptoSaid : Prop := shareFirstUptoRow.holds Tryd.pinned (OpenSpec.upto shareFirstSpec)

end Rows
end Go.Proofs.YtniipdeonahoaaaDoor
