/-
  No cell of these rows narrows 'for every input' (looked for: loops, veiled, ifaces, maps, wideKeys, modest, calm, conditions, laid).
  DERIVED. THE GIVEN ROWS OF THIS SEAT. 7 by the template 'for every input the law returns true; each argument reads behind the call as it read before'; 0 by the template 'total and deterministic' (their statements: YtceomfdppbmebaaTotals.lean).
  GIVEN WITH THE SEED: the statements are not yours to turn. If you find one false, say at which input.
  Laid BY PROGRAM, IN A SANDBOX (cutbox-rows.mjs): the forced cells as the released guide's own fill.sh prints them over the translation 131ce390b04d434c… (all of the seat's roots in one cut). By AI agents, Wed Nov 11 2026. No macro, syntax, notation, axiom, sorry.
-/
import Derived.Test.YtceomfdppbmebaaChecked
import GoSem.Claim
import GoSem.ClaimJoined
import GoSem.ClaimMapViews
import Derived.JoinedTies
import Derived.KernelRfl
namespace Go.Proofs.Ytceomfdppbmebaa
/- THE CELL 'sum', in the pinned program and in every row, IS THE sha256 OF THE DUMP (.gsa) THAT YtceomfdppbmebaaProg.lean LOADS. Nothing in Lean hashes anything: it is a label: what it is worth is what the hold of that sum in a sandbox is worth. -/
noncomputable def Try.pinned : Pinned := { name := "ytceomfdppbmebaa", sum := "131ce390b04d434cda6869f9719a603f08d116090163e67a0d986809c6159131", checked := Try.checked }
namespace Rows
def none {H : Type} : Left H := { results := [], args := [] }

/-- 'refectorylaw23.ParkPlays': WHATEVER THE INPUT: true; the input reads as it did. -/
def parkPlaysSpec : ChangeSpec := { name := "parkPlays", fn := fun _ => fun
  | [d] => { results := [.lit (.bool true)], args := [d] }
  | _ => none }
def parkPlaysRow : OpenClaim := { program := "ytceomfdppbmebaa", sum := "131ce390b04d434cda6869f9719a603f08d116090163e67a0d986809c6159131", func := "refectory/refectorylaw23.ParkPlays", spec := "parkPlays", unfollowed := true, recurses := true, apart := false }
def ParkPlaysSaid : Prop := parkPlaysRow.holds Try.pinned (OpenSpec.ofChange parkPlaysSpec)

/-- ITS FALSE NEIGHBOUR: 'it returns false'. Refute it at one input. -/
def parkPlaysWrong : ChangeSpec := { name := "parkPlays", fn := fun _ => fun
  | [d] => { results := [.lit (.bool false)], args := [d] }
  | _ => none }
def ParkPlaysWrongFalsely : Prop := parkPlaysRow.holds Try.pinned (OpenSpec.ofChange parkPlaysWrong)

/-- 'refectorylaw23.ParkOnce': WHATEVER THE INPUT: true; the input reads as it did. -/
def parkOnceSpec : ChangeSpec := { name := "parkOnce", fn := fun _ => fun
  | [d1, d2, d3, d4] => { results := [.lit (.bool true)], args := [d1, d2, d3, d4] }
  | _ => none }
def parkOnceRow : OpenClaim := { program := "ytceomfdppbmebaa", sum := "131ce390b04d434cda6869f9719a603f08d116090163e67a0d986809c6159131", func := "refectory/refectorylaw23.ParkOnce", spec := "parkOnce", unfollowed := true, recurses := true, apart := false }
def ParkOnceSaid : Prop := parkOnceRow.holds Try.pinned (OpenSpec.ofChange parkOnceSpec)

/-- ITS FALSE NEIGHBOUR: 'it returns false'. Refute it at one input. -/
def parkOnceWrong : ChangeSpec := { name := "parkOnce", fn := fun _ => fun
  | [d1, d2, d3, d4] => { results := [.lit (.bool false)], args := [d1, d2, d3, d4] }
  | _ => none }
def ParkOnceWrongFalsely : Prop := parkOnceRow.holds Try.pinned (OpenSpec.ofChange parkOnceWrong)

/-- 'refectorylaw23.ParkRises': WHATEVER THE INPUT: true; the input reads as it did. -/
def parkRisesSpec : ChangeSpec := { name := "parkRises", fn := fun _ => fun
  | [d] => { results := [.lit (.bool true)], args := [d] }
  | _ => none }
def parkRisesRow : OpenClaim := { program := "ytceomfdppbmebaa", sum := "131ce390b04d434cda6869f9719a603f08d116090163e67a0d986809c6159131", func := "refectory/refectorylaw23.ParkRises", spec := "parkRises", unfollowed := true, recurses := true, apart := false }
def ParkRisesSaid : Prop := parkRisesRow.holds Try.pinned (OpenSpec.ofChange parkRisesSpec)

/-- ITS FALSE NEIGHBOUR: 'it returns false'. Refute it at one input. -/
def parkRisesWrong : ChangeSpec := { name := "parkRises", fn := fun _ => fun
  | [d] => { results := [.lit (.bool false)], args := [d] }
  | _ => none }
def ParkRisesWrongFalsely : Prop := parkRisesRow.holds Try.pinned (OpenSpec.ofChange parkRisesWrong)

/-- 'refectorylaw23.ParkParts': WHATEVER THE INPUT: true; the input reads as it did. -/
def parkPartsSpec : ChangeSpec := { name := "parkParts", fn := fun _ => fun
  | [d1, d2, d3] => { results := [.lit (.bool true)], args := [d1, d2, d3] }
  | _ => none }
def parkPartsRow : OpenClaim := { program := "ytceomfdppbmebaa", sum := "131ce390b04d434cda6869f9719a603f08d116090163e67a0d986809c6159131", func := "refectory/refectorylaw23.ParkParts", spec := "parkParts", unfollowed := true, recurses := true, apart := false }
def ParkPartsSaid : Prop := parkPartsRow.holds Try.pinned (OpenSpec.ofChange parkPartsSpec)

/-- ITS FALSE NEIGHBOUR: 'it returns false'. Refute it at one input. -/
def parkPartsWrong : ChangeSpec := { name := "parkParts", fn := fun _ => fun
  | [d1, d2, d3] => { results := [.lit (.bool false)], args := [d1, d2, d3] }
  | _ => none }
def ParkPartsWrongFalsely : Prop := parkPartsRow.holds Try.pinned (OpenSpec.ofChange parkPartsWrong)

/-- 'refectorylaw23.ParkFirst': WHATEVER THE INPUT: true; the input reads as it did. -/
def parkFirstSpec : ChangeSpec := { name := "parkFirst", fn := fun _ => fun
  | [d1, d2, d3] => { results := [.lit (.bool true)], args := [d1, d2, d3] }
  | _ => none }
def parkFirstRow : OpenClaim := { program := "ytceomfdppbmebaa", sum := "131ce390b04d434cda6869f9719a603f08d116090163e67a0d986809c6159131", func := "refectory/refectorylaw23.ParkFirst", spec := "parkFirst", unfollowed := true, recurses := true, apart := false }
def ParkFirstSaid : Prop := parkFirstRow.holds Try.pinned (OpenSpec.ofChange parkFirstSpec)

/-- ITS FALSE NEIGHBOUR: 'it returns false'. Refute it at one input. -/
def parkFirstWrong : ChangeSpec := { name := "parkFirst", fn := fun _ => fun
  | [d1, d2, d3] => { results := [.lit (.bool false)], args := [d1, d2, d3] }
  | _ => none }
def ParkFirstWrongFalsely : Prop := parkFirstRow.holds Try.pinned (OpenSpec.ofChange parkFirstWrong)

/-- 'refectorylaw23.ParkFresh': WHATEVER THE INPUT: true; the input reads as it did. -/
def parkFreshSpec : ChangeSpec := { name := "parkFresh", fn := fun _ => fun
  | [d] => { results := [.lit (.bool true)], args := [d] }
  | _ => none }
def parkFreshRow : OpenClaim := { program := "ytceomfdppbmebaa", sum := "131ce390b04d434cda6869f9719a603f08d116090163e67a0d986809c6159131", func := "refectory/refectorylaw23.ParkFresh", spec := "parkFresh", unfollowed := true, recurses := true, apart := false }
def ParkFreshSaid : Prop := parkFreshRow.holds Try.pinned (OpenSpec.ofChange parkFreshSpec)

/-- ITS FALSE NEIGHBOUR: 'it returns false'. Refute it at one input. -/
def parkFreshWrong : ChangeSpec := { name := "parkFresh", fn := fun _ => fun
  | [d] => { results := [.lit (.bool false)], args := [d] }
  | _ => none }
def ParkFreshWrongFalsely : Prop := parkFreshRow.holds Try.pinned (OpenSpec.ofChange parkFreshWrong)

/-- 'refectorylaw23.ParkNil': WHATEVER THE INPUT: true; the input reads as it did. -/
def parkNilSpec : ChangeSpec := { name := "parkNil", fn := fun _ => fun
  | [d1, d2, d3, d4, d5] => { results := [.lit (.bool true)], args := [d1, d2, d3, d4, d5] }
  | _ => none }
def parkNilRow : OpenClaim := { program := "ytceomfdppbmebaa", sum := "131ce390b04d434cda6869f9719a603f08d116090163e67a0d986809c6159131", func := "refectory/refectorylaw23.ParkNil", spec := "parkNil", unfollowed := true, recurses := true, apart := false }
def ParkNilSaid : Prop := parkNilRow.holds Try.pinned (OpenSpec.ofChange parkNilSpec)

/-- ITS FALSE NEIGHBOUR: 'it returns false'. Refute it at one input. -/
def parkNilWrong : ChangeSpec := { name := "parkNil", fn := fun _ => fun
  | [d1, d2, d3, d4, d5] => { results := [.lit (.bool false)], args := [d1, d2, d3, d4, d5] }
  | _ => none }
def ParkNilWrongFalsely : Prop := parkNilRow.holds Try.pinned (OpenSpec.ofChange parkNilWrong)

/- THE SECOND FORM. 'bulk': how many values and letters a reading holds, each counted each time it is reached (what is shared counts as often as it is met; a slice's spare places count too). A statement '..UptoSaid' is the law's where the arguments, and the package variables that the reading takes, are together of bulk at most 1048576: NARROWER than '..Said'. Prove '..Said' where nothing that the law and all that it calls make is longer than what came in: it says more and counts as full. Else prove '..UptoSaid'. A law counts once. -/
mutual
def uptoBulk {H : Type} : DataW H → Nat
  | .lit (.string bytes) => bytes.length + 1
  | .lit _ => 1
  | .nil => 1
  | .ptr d => uptoBulk d + 1
  | .slice elems spare => uptoBulkAll elems + uptoBulkAll spare + 1
  | .agg parts => uptoBulkAll parts + 1
  | .iface _ d => uptoBulk d + 1
  | .map entries => uptoBulkEntries entries + 1
  | .held _ => 1
def uptoBulkAll {H : Type} : List (DataW H) → Nat
  | [] => 0
  | d :: r => uptoBulk d + uptoBulkAll r
def uptoBulkEntries {H : Type} : List (Lit × DataW H) → Nat
  | [] => 0
  | x :: r => uptoBulkEntry x + uptoBulkEntries r
def uptoBulkEntry {H : Type} : Lit × DataW H → Nat
  | (.string bytes, d) => bytes.length + uptoBulk d + 1
  | (_, d) => uptoBulk d + 1
 end
def uptoSmall : (H : Type) → List (DataW H) → Bool := fun _ ds => decide (uptoBulkAll ds ≤ 1048576)
def OpenSpec.upto (s : _root_.Go.ChangeSpec) : _root_.Go.OpenSpec := { _root_.Go.OpenSpec.ofChange s with cond := some uptoSmall }

/-- 'refectorylaw23.ParkPlays', WHERE WHAT IT READS IS OF BULK AT MOST 1048576: true; the input reads as it did. -/
def parkPlaysUptoRow : OpenClaim := { program := "ytceomfdppbmebaa", sum := "131ce390b04d434cda6869f9719a603f08d116090163e67a0d986809c6159131", func := "refectory/refectorylaw23.ParkPlays", spec := "parkPlays", unfollowed := true, recurses := true, apart := false, narrowed := true }
def ParkPlaysUptoSaid : Prop := parkPlaysUptoRow.holds Try.pinned (OpenSpec.upto parkPlaysSpec)

/-- 'refectorylaw23.ParkOnce', WHERE WHAT IT READS IS OF BULK AT MOST 1048576: true; the input reads as it did. -/
def parkOnceUptoRow : OpenClaim := { program := "ytceomfdppbmebaa", sum := "131ce390b04d434cda6869f9719a603f08d116090163e67a0d986809c6159131", func := "refectory/refectorylaw23.ParkOnce", spec := "parkOnce", unfollowed := true, recurses := true, apart := false, narrowed := true }
def ParkOnceUptoSaid : Prop := parkOnceUptoRow.holds Try.pinned (OpenSpec.upto parkOnceSpec)

/-- 'refectorylaw23.ParkRises', WHERE WHAT IT READS IS OF BULK AT MOST 1048576: true; the input reads as it did. -/
def parkRisesUptoRow : OpenClaim := { program := "ytceomfdppbmebaa", sum := "131ce390b04d434cda6869f9719a603f08d116090163e67a0d986809c6159131", func := "refectory/refectorylaw23.ParkRises", spec := "parkRises", unfollowed := true, recurses := true, apart := false, narrowed := true }
def ParkRisesUptoSaid : Prop := parkRisesUptoRow.holds Try.pinned (OpenSpec.upto parkRisesSpec)

/-- 'refectorylaw23.ParkParts', WHERE WHAT IT READS IS OF BULK AT MOST 1048576: true; the input reads as it did. -/
def parkPartsUptoRow : OpenClaim := { program := "ytceomfdppbmebaa", sum := "131ce390b04d434cda6869f9719a603f08d116090163e67a0d986809c6159131", func := "refectory/refectorylaw23.ParkParts", spec := "parkParts", unfollowed := true, recurses := true, apart := false, narrowed := true }
def ParkPartsUptoSaid : Prop := parkPartsUptoRow.holds Try.pinned (OpenSpec.upto parkPartsSpec)

/-- 'refectorylaw23.ParkFirst', WHERE WHAT IT READS IS OF BULK AT MOST 1048576: true; the input reads as it did. -/
def parkFirstUptoRow : OpenClaim := { program := "ytceomfdppbmebaa", sum := "131ce390b04d434cda6869f9719a603f08d116090163e67a0d986809c6159131", func := "refectory/refectorylaw23.ParkFirst", spec := "parkFirst", unfollowed := true, recurses := true, apart := false, narrowed := true }
def ParkFirstUptoSaid : Prop := parkFirstUptoRow.holds Try.pinned (OpenSpec.upto parkFirstSpec)

/-- 'refectorylaw23.ParkFresh', WHERE WHAT IT READS IS OF BULK AT MOST 1048576: true; the input reads as it did. -/
def parkFreshUptoRow : OpenClaim := { program := "ytceomfdppbmebaa", sum := "131ce390b04d434cda6869f9719a603f08d116090163e67a0d986809c6159131", func := "refectory/refectorylaw23.ParkFresh", spec := "parkFresh", unfollowed := true, recurses := true, apart := false, narrowed := true }
def ParkFreshUptoSaid : Prop := parkFreshUptoRow.holds Try.pinned (OpenSpec.upto parkFreshSpec)

/-- 'refectorylaw23.ParkNil', WHERE WHAT IT READS IS OF BULK AT MOST 1048576: true; the input reads as it did. -/
def parkNilUptoRow : OpenClaim := { program := "ytceomfdppbmebaa", sum := "131ce390b04d434cda6869f9719a603f08d116090163e67a0d986809c6159131", func := "refectory/refectorylaw23.ParkNil", spec := "parkNil", unfollowed := true, recurses := true, apart := false, narrowed := true }
def ParkNilUptoSaid : Prop := parkNilUptoRow.holds Try.pinned (OpenSpec.upto parkNilSpec)

end Rows
end Go.Proofs.Ytceomfdppbmebaa
