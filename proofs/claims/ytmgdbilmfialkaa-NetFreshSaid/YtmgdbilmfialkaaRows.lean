/-
  No cell of these rows narrows 'for every input' (looked for: loops, veiled, ifaces, maps, wideKeys, modest, calm, conditions, laid).
  DERIVED. THE GIVEN ROWS OF THIS SEAT. 6 by the template 'for every input the law returns true; each argument reads behind the call as it read before'; 0 by the template 'total and deterministic' (their statements: YtmgdbilmfialkaaTotals.lean).
  GIVEN WITH THE SEED: the statements are not yours to turn. If you find one false, say at which input.
  Laid BY PROGRAM, IN A SANDBOX (cutbox-rows.mjs): the forced cells as the released guide's own fill.sh prints them over the translation b01da694f250272f… (all of the seat's roots in one cut). By AI agents, Wed Nov 11 2026. No macro, syntax, notation, axiom, sorry.
-/
import Derived.Test.YtmgdbilmfialkaaChecked
import GoSem.Claim
import GoSem.ClaimJoined
import GoSem.ClaimMapViews
import Derived.JoinedTies
import Derived.KernelRfl
namespace Go.Proofs.Ytmgdbilmfialkaa
/- THE CELL 'sum', in the pinned program and in every row, IS THE sha256 OF THE DUMP (.gsa) THAT YtmgdbilmfialkaaProg.lean LOADS. Nothing in Lean hashes anything: it is a label: what it is worth is what the hold of that sum in a sandbox is worth. -/
noncomputable def Try.pinned : Pinned := { name := "ytmgdbilmfialkaa", sum := "b01da694f250272f6af2ff954ba282180abb4d44985df84de49b4e3375fbd066", checked := Try.checked }
namespace Rows
def none {H : Type} : Left H := { results := [], args := [] }

/-- 'refectorylaw29.NetPieces': WHATEVER THE INPUT: true; the input reads as it did. -/
def netPiecesSpec : ChangeSpec := { name := "netPieces", fn := fun _ => fun
  | [d1, d2, d3] => { results := [.lit (.bool true)], args := [d1, d2, d3] }
  | _ => none }
def netPiecesRow : OpenClaim := { program := "ytmgdbilmfialkaa", sum := "b01da694f250272f6af2ff954ba282180abb4d44985df84de49b4e3375fbd066", func := "refectory/refectorylaw29.NetPieces", spec := "netPieces", apart := false }
def NetPiecesSaid : Prop := netPiecesRow.holds Try.pinned (OpenSpec.ofChange netPiecesSpec)

/-- ITS FALSE NEIGHBOUR: 'it returns false'. Refute it at one input. -/
def netPiecesWrong : ChangeSpec := { name := "netPieces", fn := fun _ => fun
  | [d1, d2, d3] => { results := [.lit (.bool false)], args := [d1, d2, d3] }
  | _ => none }
def NetPiecesWrongFalsely : Prop := netPiecesRow.holds Try.pinned (OpenSpec.ofChange netPiecesWrong)

/-- 'refectorylaw29.NetFresh': WHATEVER THE INPUT: true; the input reads as it did. -/
def netFreshSpec : ChangeSpec := { name := "netFresh", fn := fun _ => fun
  | [d1, d2] => { results := [.lit (.bool true)], args := [d1, d2] }
  | _ => none }
def netFreshRow : OpenClaim := { program := "ytmgdbilmfialkaa", sum := "b01da694f250272f6af2ff954ba282180abb4d44985df84de49b4e3375fbd066", func := "refectory/refectorylaw29.NetFresh", spec := "netFresh", recurses := true, apart := false }
def NetFreshSaid : Prop := netFreshRow.holds Try.pinned (OpenSpec.ofChange netFreshSpec)

/-- ITS FALSE NEIGHBOUR: 'it returns false'. Refute it at one input. -/
def netFreshWrong : ChangeSpec := { name := "netFresh", fn := fun _ => fun
  | [d1, d2] => { results := [.lit (.bool false)], args := [d1, d2] }
  | _ => none }
def NetFreshWrongFalsely : Prop := netFreshRow.holds Try.pinned (OpenSpec.ofChange netFreshWrong)

/-- 'refectorylaw29.NetNil': WHATEVER THE INPUT: true; the input reads as it did. -/
def netNilSpec : ChangeSpec := { name := "netNil", fn := fun _ => fun
  | [d1, d2, d3, d4, d5] => { results := [.lit (.bool true)], args := [d1, d2, d3, d4, d5] }
  | _ => none }
def netNilRow : OpenClaim := { program := "ytmgdbilmfialkaa", sum := "b01da694f250272f6af2ff954ba282180abb4d44985df84de49b4e3375fbd066", func := "refectory/refectorylaw29.NetNil", spec := "netNil", recurses := true, apart := false }
def NetNilSaid : Prop := netNilRow.holds Try.pinned (OpenSpec.ofChange netNilSpec)

/-- ITS FALSE NEIGHBOUR: 'it returns false'. Refute it at one input. -/
def netNilWrong : ChangeSpec := { name := "netNil", fn := fun _ => fun
  | [d1, d2, d3, d4, d5] => { results := [.lit (.bool false)], args := [d1, d2, d3, d4, d5] }
  | _ => none }
def NetNilWrongFalsely : Prop := netNilRow.holds Try.pinned (OpenSpec.ofChange netNilWrong)

/-- 'refectorylaw29.NetPlays': WHATEVER THE INPUT: true; the input reads as it did. -/
def netPlaysSpec : ChangeSpec := { name := "netPlays", fn := fun _ => fun
  | [d] => { results := [.lit (.bool true)], args := [d] }
  | _ => none }
def netPlaysRow : OpenClaim := { program := "ytmgdbilmfialkaa", sum := "b01da694f250272f6af2ff954ba282180abb4d44985df84de49b4e3375fbd066", func := "refectory/refectorylaw29.NetPlays", spec := "netPlays", recurses := true, apart := false }
def NetPlaysSaid : Prop := netPlaysRow.holds Try.pinned (OpenSpec.ofChange netPlaysSpec)

/-- ITS FALSE NEIGHBOUR: 'it returns false'. Refute it at one input. -/
def netPlaysWrong : ChangeSpec := { name := "netPlays", fn := fun _ => fun
  | [d] => { results := [.lit (.bool false)], args := [d] }
  | _ => none }
def NetPlaysWrongFalsely : Prop := netPlaysRow.holds Try.pinned (OpenSpec.ofChange netPlaysWrong)

/-- 'refectorylaw29.NetApart': WHATEVER THE INPUT: true; the input reads as it did. -/
def netApartSpec : ChangeSpec := { name := "netApart", fn := fun _ => fun
  | [d1, d2, d3, d4] => { results := [.lit (.bool true)], args := [d1, d2, d3, d4] }
  | _ => none }
def netApartRow : OpenClaim := { program := "ytmgdbilmfialkaa", sum := "b01da694f250272f6af2ff954ba282180abb4d44985df84de49b4e3375fbd066", func := "refectory/refectorylaw29.NetApart", spec := "netApart", recurses := true, apart := false }
def NetApartSaid : Prop := netApartRow.holds Try.pinned (OpenSpec.ofChange netApartSpec)

/-- ITS FALSE NEIGHBOUR: 'it returns false'. Refute it at one input. -/
def netApartWrong : ChangeSpec := { name := "netApart", fn := fun _ => fun
  | [d1, d2, d3, d4] => { results := [.lit (.bool false)], args := [d1, d2, d3, d4] }
  | _ => none }
def NetApartWrongFalsely : Prop := netApartRow.holds Try.pinned (OpenSpec.ofChange netApartWrong)

/-- 'refectorylaw29.NetCuts': WHATEVER THE INPUT: true; the input reads as it did. -/
def netCutsSpec : ChangeSpec := { name := "netCuts", fn := fun _ => fun
  | [d1, d2] => { results := [.lit (.bool true)], args := [d1, d2] }
  | _ => none }
def netCutsRow : OpenClaim := { program := "ytmgdbilmfialkaa", sum := "b01da694f250272f6af2ff954ba282180abb4d44985df84de49b4e3375fbd066", func := "refectory/refectorylaw29.NetCuts", spec := "netCuts", recurses := true, apart := false }
def NetCutsSaid : Prop := netCutsRow.holds Try.pinned (OpenSpec.ofChange netCutsSpec)

/-- ITS FALSE NEIGHBOUR: 'it returns false'. Refute it at one input. -/
def netCutsWrong : ChangeSpec := { name := "netCuts", fn := fun _ => fun
  | [d1, d2] => { results := [.lit (.bool false)], args := [d1, d2] }
  | _ => none }
def NetCutsWrongFalsely : Prop := netCutsRow.holds Try.pinned (OpenSpec.ofChange netCutsWrong)

/- THE SECOND FORM. 'bulk': how many values and letters a reading holds, each counted each time it is reached (what is shared counts as often as it is met; a slice's spare places count too). A statement '..UptoSaid' is the law's where the arguments, and the package variables that the reading takes, are together of bulk at most 1048576: NARROWER than '..Said'. Prove '..Said' where nothing that the law and all that it calls make is longer than what came in: it says more and counts as full. Else prove '..UptoSaid'. A law counts once. -/
mutual
def uptoBulk {H : Type} : DataW H → Nat
  | .lit (.string bytes) => bytes.length + 1
  | .lit _ => 1
  | .nil => 1
  | .ptr d => uptoBulk d + 1
  | .slice elems spare => uptoBulkAll elems + uptoBulkAll spare + 1
  | .agg parts => uptoBulkAll parts + 1
  | .iface _ d => uptoBulk d + 1
  | .map entries => uptoBulkEntries entries + 1
  | .held _ => 1
def uptoBulkAll {H : Type} : List (DataW H) → Nat
  | [] => 0
  | d :: r => uptoBulk d + uptoBulkAll r
def uptoBulkEntries {H : Type} : List (Lit × DataW H) → Nat
  | [] => 0
  | x :: r => uptoBulkEntry x + uptoBulkEntries r
def uptoBulkEntry {H : Type} : Lit × DataW H → Nat
  | (.string bytes, d) => bytes.length + uptoBulk d + 1
  | (_, d) => uptoBulk d + 1
 end
def uptoSmall : (H : Type) → List (DataW H) → Bool := fun _ ds => decide (uptoBulkAll ds ≤ 1048576)
def OpenSpec.upto (s : _root_.Go.ChangeSpec) : _root_.Go.OpenSpec := { _root_.Go.OpenSpec.ofChange s with cond := some uptoSmall }

/-- 'refectorylaw29.NetPieces', WHERE WHAT IT READS IS OF BULK AT MOST 1048576: true; the input reads as it did. -/
def netPiecesUptoRow : OpenClaim := { program := "ytmgdbilmfialkaa", sum := "b01da694f250272f6af2ff954ba282180abb4d44985df84de49b4e3375fbd066", func := "refectory/refectorylaw29.NetPieces", spec := "netPieces", apart := false, narrowed := true }
def NetPiecesUptoSaid : Prop := netPiecesUptoRow.holds Try.pinned (OpenSpec.upto netPiecesSpec)

/-- 'refectorylaw29.NetFresh', WHERE WHAT IT READS IS OF BULK AT MOST 1048576: true; the input reads as it did. -/
def netFreshUptoRow : OpenClaim := { program := "ytmgdbilmfialkaa", sum := "b01da694f250272f6af2ff954ba282180abb4d44985df84de49b4e3375fbd066", func := "refectory/refectorylaw29.NetFresh", spec := "netFresh", recurses := true, apart := false, narrowed := true }
def NetFreshUptoSaid : Prop := netFreshUptoRow.holds Try.pinned (OpenSpec.upto netFreshSpec)

/-- 'refectorylaw29.NetNil', WHERE WHAT IT READS IS OF BULK AT MOST 1048576: true; the input reads as it did. -/
def netNilUptoRow : OpenClaim := { program := "ytmgdbilmfialkaa", sum := "b01da694f250272f6af2ff954ba282180abb4d44985df84de49b4e3375fbd066", func := "refectory/refectorylaw29.NetNil", spec := "netNil", recurses := true, apart := false, narrowed := true }
def NetNilUptoSaid : Prop := netNilUptoRow.holds Try.pinned (OpenSpec.upto netNilSpec)

/-- 'refectorylaw29.NetPlays', WHERE WHAT IT READS IS OF BULK AT MOST 1048576: true; the input reads as it did. -/
def netPlaysUptoRow : OpenClaim := { program := "ytmgdbilmfialkaa", sum := "b01da694f250272f6af2ff954ba282180abb4d44985df84de49b4e3375fbd066", func := "refectory/refectorylaw29.NetPlays", spec := "netPlays", recurses := true, apart := false, narrowed := true }
def NetPlaysUptoSaid : Prop := netPlaysUptoRow.holds Try.pinned (OpenSpec.upto netPlaysSpec)

/-- 'refectorylaw29.NetApart', WHERE WHAT IT READS IS OF BULK AT MOST 1048576: true; the input reads as it did. -/
def netApartUptoRow : OpenClaim := { program := "ytmgdbilmfialkaa", sum := "b01da694f250272f6af2ff954ba282180abb4d44985df84de49b4e3375fbd066", func := "refectory/refectorylaw29.NetApart", spec := "netApart", recurses := true, apart := false, narrowed := true }
def NetApartUptoSaid : Prop := netApartUptoRow.holds Try.pinned (OpenSpec.upto netApartSpec)

/-- 'refectorylaw29.NetCuts', WHERE WHAT IT READS IS OF BULK AT MOST 1048576: true; the input reads as it did. -/
def netCutsUptoRow : OpenClaim := { program := "ytmgdbilmfialkaa", sum := "b01da694f250272f6af2ff954ba282180abb4d44985df84de49b4e3375fbd066", func := "refectory/refectorylaw29.NetCuts", spec := "netCuts", recurses := true, apart := false, narrowed := true }
def NetCutsUptoSaid : Prop := netCutsUptoRow.holds Try.pinned (OpenSpec.upto netCutsSpec)

end Rows
end Go.Proofs.Ytmgdbilmfialkaa
