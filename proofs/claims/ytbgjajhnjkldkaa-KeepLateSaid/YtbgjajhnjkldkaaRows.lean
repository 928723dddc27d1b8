/-
  No cell of these rows narrows 'for every input' (looked for: loops, veiled, ifaces, maps, wideKeys, modest, calm, conditions, laid).
  DERIVED. THE GIVEN ROWS OF THIS SEAT. 6 by the template 'for every input the law returns true; each argument reads behind the call as it read before'; 0 by the template 'total and deterministic' (their statements: YtbgjajhnjkldkaaTotals.lean).
  GIVEN WITH THE SEED: the statements are not yours to turn. If you find one false, say at which input.
  Laid BY PROGRAM, IN A SANDBOX (cutbox-rows.mjs): the forced cells as the released guide's own fill.sh prints them over the translation d7c35c481c212314… (all of the seat's roots in one cut). By AI agents, Wed Nov 11 2026. No macro, syntax, notation, axiom, sorry.
-/
import Derived.Test.YtbgjajhnjkldkaaChecked
import GoSem.Claim
import GoSem.ClaimJoined
import GoSem.ClaimMapViews
import Derived.JoinedTies
import Derived.KernelRfl
namespace Go.Proofs.Ytbgjajhnjkldkaa
/- THE CELL 'sum', in the pinned program and in every row, IS THE sha256 OF THE DUMP (.gsa) THAT YtbgjajhnjkldkaaProg.lean LOADS. Nothing in Lean hashes anything: it is a label: what it is worth is what the hold of that sum in a sandbox is worth. -/
noncomputable def Try.pinned : Pinned := { name := "ytbgjajhnjkldkaa", sum := "d7c35c481c21231445cf2eebb1f2e4e78b157fc3de198d0fc202abf4f3480ed3", checked := Try.checked }
namespace Rows
def none {H : Type} : Left H := { results := [], args := [] }

/-- 'refectorylaw24.KeepPlays': WHATEVER THE INPUT: true; the input reads as it did. -/
def keepPlaysSpec : ChangeSpec := { name := "keepPlays", fn := fun _ => fun
  | [d] => { results := [.lit (.bool true)], args := [d] }
  | _ => none }
def keepPlaysRow : OpenClaim := { program := "ytbgjajhnjkldkaa", sum := "d7c35c481c21231445cf2eebb1f2e4e78b157fc3de198d0fc202abf4f3480ed3", func := "refectory/refectorylaw24.KeepPlays", spec := "keepPlays", recurses := true, apart := false }
def KeepPlaysSaid : Prop := keepPlaysRow.holds Try.pinned (OpenSpec.ofChange keepPlaysSpec)

/-- ITS FALSE NEIGHBOUR: 'it returns false'. Refute it at one input. -/
def keepPlaysWrong : ChangeSpec := { name := "keepPlays", fn := fun _ => fun
  | [d] => { results := [.lit (.bool false)], args := [d] }
  | _ => none }
def KeepPlaysWrongFalsely : Prop := keepPlaysRow.holds Try.pinned (OpenSpec.ofChange keepPlaysWrong)

/-- 'refectorylaw24.KeepAsks': WHATEVER THE INPUT: true; the input reads as it did. -/
def keepAsksSpec : ChangeSpec := { name := "keepAsks", fn := fun _ => fun
  | [d1, d2, d3] => { results := [.lit (.bool true)], args := [d1, d2, d3] }
  | _ => none }
def keepAsksRow : OpenClaim := { program := "ytbgjajhnjkldkaa", sum := "d7c35c481c21231445cf2eebb1f2e4e78b157fc3de198d0fc202abf4f3480ed3", func := "refectory/refectorylaw24.KeepAsks", spec := "keepAsks", recurses := true, apart := false }
def KeepAsksSaid : Prop := keepAsksRow.holds Try.pinned (OpenSpec.ofChange keepAsksSpec)

/-- ITS FALSE NEIGHBOUR: 'it returns false'. Refute it at one input. -/
def keepAsksWrong : ChangeSpec := { name := "keepAsks", fn := fun _ => fun
  | [d1, d2, d3] => { results := [.lit (.bool false)], args := [d1, d2, d3] }
  | _ => none }
def KeepAsksWrongFalsely : Prop := keepAsksRow.holds Try.pinned (OpenSpec.ofChange keepAsksWrong)

/-- 'refectorylaw24.KeepBack': WHATEVER THE INPUT: true; the input reads as it did. -/
def keepBackSpec : ChangeSpec := { name := "keepBack", fn := fun _ => fun
  | [d1, d2, d3, d4, d5, d6, d7, d8] => { results := [.lit (.bool true)], args := [d1, d2, d3, d4, d5, d6, d7, d8] }
  | _ => none }
def keepBackRow : OpenClaim := { program := "ytbgjajhnjkldkaa", sum := "d7c35c481c21231445cf2eebb1f2e4e78b157fc3de198d0fc202abf4f3480ed3", func := "refectory/refectorylaw24.KeepBack", spec := "keepBack", recurses := true, apart := false }
def KeepBackSaid : Prop := keepBackRow.holds Try.pinned (OpenSpec.ofChange keepBackSpec)

/-- ITS FALSE NEIGHBOUR: 'it returns false'. Refute it at one input. -/
def keepBackWrong : ChangeSpec := { name := "keepBack", fn := fun _ => fun
  | [d1, d2, d3, d4, d5, d6, d7, d8] => { results := [.lit (.bool false)], args := [d1, d2, d3, d4, d5, d6, d7, d8] }
  | _ => none }
def KeepBackWrongFalsely : Prop := keepBackRow.holds Try.pinned (OpenSpec.ofChange keepBackWrong)

/-- 'refectorylaw24.KeepLate': WHATEVER THE INPUT: true; the input reads as it did. -/
def keepLateSpec : ChangeSpec := { name := "keepLate", fn := fun _ => fun
  | [d1, d2, d3] => { results := [.lit (.bool true)], args := [d1, d2, d3] }
  | _ => none }
def keepLateRow : OpenClaim := { program := "ytbgjajhnjkldkaa", sum := "d7c35c481c21231445cf2eebb1f2e4e78b157fc3de198d0fc202abf4f3480ed3", func := "refectory/refectorylaw24.KeepLate", spec := "keepLate", recurses := true, apart := false }
def KeepLateSaid : Prop := keepLateRow.holds Try.pinned (OpenSpec.ofChange keepLateSpec)

/-- ITS FALSE NEIGHBOUR: 'it returns false'. Refute it at one input. -/
def keepLateWrong : ChangeSpec := { name := "keepLate", fn := fun _ => fun
  | [d1, d2, d3] => { results := [.lit (.bool false)], args := [d1, d2, d3] }
  | _ => none }
def KeepLateWrongFalsely : Prop := keepLateRow.holds Try.pinned (OpenSpec.ofChange keepLateWrong)

/-- 'refectorylaw24.KeepDrops': WHATEVER THE INPUT: true; the input reads as it did. -/
def keepDropsSpec : ChangeSpec := { name := "keepDrops", fn := fun _ => fun
  | [d1, d2, d3] => { results := [.lit (.bool true)], args := [d1, d2, d3] }
  | _ => none }
def keepDropsRow : OpenClaim := { program := "ytbgjajhnjkldkaa", sum := "d7c35c481c21231445cf2eebb1f2e4e78b157fc3de198d0fc202abf4f3480ed3", func := "refectory/refectorylaw24.KeepDrops", spec := "keepDrops", recurses := true, apart := false }
def KeepDropsSaid : Prop := keepDropsRow.holds Try.pinned (OpenSpec.ofChange keepDropsSpec)

/-- ITS FALSE NEIGHBOUR: 'it returns false'. Refute it at one input. -/
def keepDropsWrong : ChangeSpec := { name := "keepDrops", fn := fun _ => fun
  | [d1, d2, d3] => { results := [.lit (.bool false)], args := [d1, d2, d3] }
  | _ => none }
def KeepDropsWrongFalsely : Prop := keepDropsRow.holds Try.pinned (OpenSpec.ofChange keepDropsWrong)

/-- 'refectorylaw24.KeepNil': WHATEVER THE INPUT: true; the input reads as it did. -/
def keepNilSpec : ChangeSpec := { name := "keepNil", fn := fun _ => fun
  | [d1, d2, d3, d4, d5] => { results := [.lit (.bool true)], args := [d1, d2, d3, d4, d5] }
  | _ => none }
def keepNilRow : OpenClaim := { program := "ytbgjajhnjkldkaa", sum := "d7c35c481c21231445cf2eebb1f2e4e78b157fc3de198d0fc202abf4f3480ed3", func := "refectory/refectorylaw24.KeepNil", spec := "keepNil", recurses := true, apart := false }
def KeepNilSaid : Prop := keepNilRow.holds Try.pinned (OpenSpec.ofChange keepNilSpec)

/-- ITS FALSE NEIGHBOUR: 'it returns false'. Refute it at one input. -/
def keepNilWrong : ChangeSpec := { name := "keepNil", fn := fun _ => fun
  | [d1, d2, d3, d4, d5] => { results := [.lit (.bool false)], args := [d1, d2, d3, d4, d5] }
  | _ => none }
def KeepNilWrongFalsely : Prop := keepNilRow.holds Try.pinned (OpenSpec.ofChange keepNilWrong)

/- THE SECOND FORM. 'bulk': how many values and letters a reading holds, each counted each time it is reached (what is shared counts as often as it is met; a slice's spare places count too). A statement '..UptoSaid' is the law's where the arguments, and the package variables that the reading takes, are together of bulk at most 1048576: NARROWER than '..Said'. Prove '..Said' where nothing that the law and all that it calls make is longer than what came in: it says more and counts as full. Else prove '..UptoSaid'. A law counts once. -/
mutual
def uptoBulk {H : Type} : DataW H → Nat
  | .lit (.string bytes) => bytes.length + 1
  | .lit _ => 1
  | .nil => 1
  | .ptr d => uptoBulk d + 1
  | .slice elems spare => uptoBulkAll elems + uptoBulkAll spare + 1
  | .agg parts => uptoBulkAll parts + 1
  | .iface _ d => uptoBulk d + 1
  | .map entries => uptoBulkEntries entries + 1
  | .held _ => 1
def uptoBulkAll {H : Type} : List (DataW H) → Nat
  | [] => 0
  | d :: r => uptoBulk d + uptoBulkAll r
def uptoBulkEntries {H : Type} : List (Lit × DataW H) → Nat
  | [] => 0
  | x :: r => uptoBulkEntry x + uptoBulkEntries r
def uptoBulkEntry {H : Type} : Lit × DataW H → Nat
  | (.string bytes, d) => bytes.length + uptoBulk d + 1
  | (_, d) => uptoBulk d + 1
 end
def uptoSmall : (H : Type) → List (DataW H) → Bool := fun _ ds => decide (uptoBulkAll ds ≤ 1048576)
def OpenSpec.upto (s : _root_.Go.ChangeSpec) : _root_.Go.OpenSpec := { _root_.Go.OpenSpec.ofChange s with cond := some uptoSmall }

/-- 'refectorylaw24.KeepPlays', WHERE WHAT IT READS IS OF BULK AT MOST 1048576: true; the input reads as it did. -/
def keepPlaysUptoRow : OpenClaim := { program := "ytbgjajhnjkldkaa", sum := "d7c35c481c21231445cf2eebb1f2e4e78b157fc3de198d0fc202abf4f3480ed3", func := "refectory/refectorylaw24.KeepPlays", spec := "keepPlays", recurses := true, apart := false, narrowed := true }
def KeepPlaysUptoSaid : Prop := keepPlaysUptoRow.holds Try.pinned (OpenSpec.upto keepPlaysSpec)

/-- 'refectorylaw24.KeepAsks', WHERE WHAT IT READS IS OF BULK AT MOST 1048576: true; the input reads as it did. -/
def keepAsksUptoRow : OpenClaim := { program := "ytbgjajhnjkldkaa", sum := "d7c35c481c21231445cf2eebb1f2e4e78b157fc3de198d0fc202abf4f3480ed3", func := "refectory/refectorylaw24.KeepAsks", spec := "keepAsks", recurses := true, apart := false, narrowed := true }
def KeepAsksUptoSaid : Prop := keepAsksUptoRow.holds Try.pinned (OpenSpec.upto keepAsksSpec)

/-- 'refectorylaw24.KeepBack', WHERE WHAT IT READS IS OF BULK AT MOST 1048576: true; the input reads as it did. -/
def keepBackUptoRow : OpenClaim := { program := "ytbgjajhnjkldkaa", sum := "d7c35c481c21231445cf2eebb1f2e4e78b157fc3de198d0fc202abf4f3480ed3", func := "refectory/refectorylaw24.KeepBack", spec := "keepBack", recurses := true, apart := false, narrowed := true }
def KeepBackUptoSaid : Prop := keepBackUptoRow.holds Try.pinned (OpenSpec.upto keepBackSpec)

/-- 'refectorylaw24.KeepLate', WHERE WHAT IT READS IS OF BULK AT MOST 1048576: true; the input reads as it did. -/
def keepLateUptoRow : OpenClaim := { program := "ytbgjajhnjkldkaa", sum := "d7c35c481c21231445cf2eebb1f2e4e78b157fc3de198d0fc202abf4f3480ed3", func := "refectory/refectorylaw24.KeepLate", spec := "keepLate", recurses := true, apart := false, narrowed := true }
def KeepLateUptoSaid : Prop := keepLateUptoRow.holds Try.pinned (OpenSpec.upto keepLateSpec)

/-- 'refectorylaw24.KeepDrops', WHERE WHAT IT READS IS OF BULK AT MOST 1048576: true; the input reads as it did. -/
def keepDropsUptoRow : OpenClaim := { program := "ytbgjajhnjkldkaa", sum := "d7c35c481c21231445cf2eebb1f2e4e78b157fc3de198d0fc202abf4f3480ed3", func := "refectory/refectorylaw24.KeepDrops", spec := "keepDrops", recurses := true, apart := false, narrowed := true }
def KeepDropsUptoSaid : Prop := keepDropsUptoRow.holds Try.pinned (OpenSpec.upto keepDropsSpec)

/-- 'refectorylaw24.KeepNil', WHERE WHAT IT READS IS OF BULK AT MOST 1048576: true; the input reads as it did. -/
def keepNilUptoRow : OpenClaim := { program := "ytbgjajhnjkldkaa", sum := "d7c35c481c21231445cf2eebb1f2e4e78b157fc3de198d0fc202abf4f3480ed3", func := "refectory/refectorylaw24.KeepNil", spec := "keepNil", recurses := true, apart := false, narrowed := true }
def KeepNilUptoSaid : Prop := keepNilUptoRow.holds Try.pinned (OpenSpec.upto keepNilSpec)

end Rows
end Go.Proofs.Ytbgjajhnjkldkaa
