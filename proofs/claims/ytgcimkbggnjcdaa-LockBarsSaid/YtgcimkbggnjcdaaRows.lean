/-
  No cell of these rows narrows 'for every input' (looked for: loops, veiled, ifaces, maps, wideKeys, modest, calm, conditions, laid).
  DERIVED. THE GIVEN ROWS OF THIS SEAT. 8 by the template 'for every input the law returns true; each argument reads behind the call as it read before'; 0 by the template 'total and deterministic' (their statements: YtgcimkbggnjcdaaTotals.lean).
  GIVEN WITH THE SEED: the statements are not yours to turn. If you find one false, say at which input.
  Laid BY PROGRAM, IN A SANDBOX (cutbox-rows.mjs): the forced cells as the released guide's own fill.sh prints them over the translation 5ebff930adc568fd… (all of the seat's roots in one cut). By AI agents, Wed Nov 11 2026. No macro, syntax, notation, axiom, sorry.
-/
import Derived.Test.YtgcimkbggnjcdaaChecked
import GoSem.Claim
import GoSem.ClaimJoined
import GoSem.ClaimMapViews
import Derived.JoinedTies
import Derived.KernelRfl
namespace Go.Proofs.Ytgcimkbggnjcdaa
/- THE CELL 'sum', in the pinned program and in every row, IS THE sha256 OF THE DUMP (.gsa) THAT YtgcimkbggnjcdaaProg.lean LOADS. Nothing in Lean hashes anything: it is a label: what it is worth is what the hold of that sum in a sandbox is worth. -/
noncomputable def Try.pinned : Pinned := { name := "ytgcimkbggnjcdaa", sum := "5ebff930adc568fddda6e9f2aac04ff2e48ab193e9b9932d64763042de0e8b55", checked := Try.checked }
namespace Rows
def none {H : Type} : Left H := { results := [], args := [] }

/-- 'refectorylaw18.LockPlays': WHATEVER THE INPUT: true; the input reads as it did. -/
def lockPlaysSpec : ChangeSpec := { name := "lockPlays", fn := fun _ => fun
  | [d] => { results := [.lit (.bool true)], args := [d] }
  | _ => none }
def lockPlaysRow : OpenClaim := { program := "ytgcimkbggnjcdaa", sum := "5ebff930adc568fddda6e9f2aac04ff2e48ab193e9b9932d64763042de0e8b55", func := "refectory/refectorylaw18.LockPlays", spec := "lockPlays", unfollowed := true, recurses := true, apart := false }
def LockPlaysSaid : Prop := lockPlaysRow.holds Try.pinned (OpenSpec.ofChange lockPlaysSpec)

/-- ITS FALSE NEIGHBOUR: 'it returns false'. Refute it at one input. -/
def lockPlaysWrong : ChangeSpec := { name := "lockPlays", fn := fun _ => fun
  | [d] => { results := [.lit (.bool false)], args := [d] }
  | _ => none }
def LockPlaysWrongFalsely : Prop := lockPlaysRow.holds Try.pinned (OpenSpec.ofChange lockPlaysWrong)

/-- 'refectorylaw18.LockAlone': WHATEVER THE INPUT: true; the input reads as it did. -/
def lockAloneSpec : ChangeSpec := { name := "lockAlone", fn := fun _ => fun
  | [d1, d2, d3] => { results := [.lit (.bool true)], args := [d1, d2, d3] }
  | _ => none }
def lockAloneRow : OpenClaim := { program := "ytgcimkbggnjcdaa", sum := "5ebff930adc568fddda6e9f2aac04ff2e48ab193e9b9932d64763042de0e8b55", func := "refectory/refectorylaw18.LockAlone", spec := "lockAlone", unfollowed := true, recurses := true, apart := false }
def LockAloneSaid : Prop := lockAloneRow.holds Try.pinned (OpenSpec.ofChange lockAloneSpec)

/-- ITS FALSE NEIGHBOUR: 'it returns false'. Refute it at one input. -/
def lockAloneWrong : ChangeSpec := { name := "lockAlone", fn := fun _ => fun
  | [d1, d2, d3] => { results := [.lit (.bool false)], args := [d1, d2, d3] }
  | _ => none }
def LockAloneWrongFalsely : Prop := lockAloneRow.holds Try.pinned (OpenSpec.ofChange lockAloneWrong)

/-- 'refectorylaw18.LockApart': WHATEVER THE INPUT: true; the input reads as it did. -/
def lockApartSpec : ChangeSpec := { name := "lockApart", fn := fun _ => fun
  | [d] => { results := [.lit (.bool true)], args := [d] }
  | _ => none }
def lockApartRow : OpenClaim := { program := "ytgcimkbggnjcdaa", sum := "5ebff930adc568fddda6e9f2aac04ff2e48ab193e9b9932d64763042de0e8b55", func := "refectory/refectorylaw18.LockApart", spec := "lockApart", unfollowed := true, recurses := true, apart := false }
def LockApartSaid : Prop := lockApartRow.holds Try.pinned (OpenSpec.ofChange lockApartSpec)

/-- ITS FALSE NEIGHBOUR: 'it returns false'. Refute it at one input. -/
def lockApartWrong : ChangeSpec := { name := "lockApart", fn := fun _ => fun
  | [d] => { results := [.lit (.bool false)], args := [d] }
  | _ => none }
def LockApartWrongFalsely : Prop := lockApartRow.holds Try.pinned (OpenSpec.ofChange lockApartWrong)

/-- 'refectorylaw18.LockBack': WHATEVER THE INPUT: true; the input reads as it did. -/
def lockBackSpec : ChangeSpec := { name := "lockBack", fn := fun _ => fun
  | [d1, d2, d3, d4, d5, d6] => { results := [.lit (.bool true)], args := [d1, d2, d3, d4, d5, d6] }
  | _ => none }
def lockBackRow : OpenClaim := { program := "ytgcimkbggnjcdaa", sum := "5ebff930adc568fddda6e9f2aac04ff2e48ab193e9b9932d64763042de0e8b55", func := "refectory/refectorylaw18.LockBack", spec := "lockBack", unfollowed := true, recurses := true, apart := false }
def LockBackSaid : Prop := lockBackRow.holds Try.pinned (OpenSpec.ofChange lockBackSpec)

/-- ITS FALSE NEIGHBOUR: 'it returns false'. Refute it at one input. -/
def lockBackWrong : ChangeSpec := { name := "lockBack", fn := fun _ => fun
  | [d1, d2, d3, d4, d5, d6] => { results := [.lit (.bool false)], args := [d1, d2, d3, d4, d5, d6] }
  | _ => none }
def LockBackWrongFalsely : Prop := lockBackRow.holds Try.pinned (OpenSpec.ofChange lockBackWrong)

/-- 'refectorylaw18.LockFresh': WHATEVER THE INPUT: true; the input reads as it did. -/
def lockFreshSpec : ChangeSpec := { name := "lockFresh", fn := fun _ => fun
  | [d1, d2, d3] => { results := [.lit (.bool true)], args := [d1, d2, d3] }
  | _ => none }
def lockFreshRow : OpenClaim := { program := "ytgcimkbggnjcdaa", sum := "5ebff930adc568fddda6e9f2aac04ff2e48ab193e9b9932d64763042de0e8b55", func := "refectory/refectorylaw18.LockFresh", spec := "lockFresh", unfollowed := true, recurses := true, apart := false }
def LockFreshSaid : Prop := lockFreshRow.holds Try.pinned (OpenSpec.ofChange lockFreshSpec)

/-- ITS FALSE NEIGHBOUR: 'it returns false'. Refute it at one input. -/
def lockFreshWrong : ChangeSpec := { name := "lockFresh", fn := fun _ => fun
  | [d1, d2, d3] => { results := [.lit (.bool false)], args := [d1, d2, d3] }
  | _ => none }
def LockFreshWrongFalsely : Prop := lockFreshRow.holds Try.pinned (OpenSpec.ofChange lockFreshWrong)

/-- 'refectorylaw18.LockBars': WHATEVER THE INPUT: true; the input reads as it did. -/
def lockBarsSpec : ChangeSpec := { name := "lockBars", fn := fun _ => fun
  | [d1, d2, d3, d4, d5] => { results := [.lit (.bool true)], args := [d1, d2, d3, d4, d5] }
  | _ => none }
def lockBarsRow : OpenClaim := { program := "ytgcimkbggnjcdaa", sum := "5ebff930adc568fddda6e9f2aac04ff2e48ab193e9b9932d64763042de0e8b55", func := "refectory/refectorylaw18.LockBars", spec := "lockBars", unfollowed := true, recurses := true, apart := false }
def LockBarsSaid : Prop := lockBarsRow.holds Try.pinned (OpenSpec.ofChange lockBarsSpec)

/-- ITS FALSE NEIGHBOUR: 'it returns false'. Refute it at one input. -/
def lockBarsWrong : ChangeSpec := { name := "lockBars", fn := fun _ => fun
  | [d1, d2, d3, d4, d5] => { results := [.lit (.bool false)], args := [d1, d2, d3, d4, d5] }
  | _ => none }
def LockBarsWrongFalsely : Prop := lockBarsRow.holds Try.pinned (OpenSpec.ofChange lockBarsWrong)

/-- 'refectorylaw18.LockCloses': WHATEVER THE INPUT: true; the input reads as it did. -/
def lockClosesSpec : ChangeSpec := { name := "lockCloses", fn := fun _ => fun
  | [d1, d2] => { results := [.lit (.bool true)], args := [d1, d2] }
  | _ => none }
def lockClosesRow : OpenClaim := { program := "ytgcimkbggnjcdaa", sum := "5ebff930adc568fddda6e9f2aac04ff2e48ab193e9b9932d64763042de0e8b55", func := "refectory/refectorylaw18.LockCloses", spec := "lockCloses", unfollowed := true, recurses := true, apart := false }
def LockClosesSaid : Prop := lockClosesRow.holds Try.pinned (OpenSpec.ofChange lockClosesSpec)

/-- ITS FALSE NEIGHBOUR: 'it returns false'. Refute it at one input. -/
def lockClosesWrong : ChangeSpec := { name := "lockCloses", fn := fun _ => fun
  | [d1, d2] => { results := [.lit (.bool false)], args := [d1, d2] }
  | _ => none }
def LockClosesWrongFalsely : Prop := lockClosesRow.holds Try.pinned (OpenSpec.ofChange lockClosesWrong)

/-- 'refectorylaw18.LockNil': WHATEVER THE INPUT: true; the input reads as it did. -/
def lockNilSpec : ChangeSpec := { name := "lockNil", fn := fun _ => fun
  | [d1, d2, d3, d4, d5] => { results := [.lit (.bool true)], args := [d1, d2, d3, d4, d5] }
  | _ => none }
def lockNilRow : OpenClaim := { program := "ytgcimkbggnjcdaa", sum := "5ebff930adc568fddda6e9f2aac04ff2e48ab193e9b9932d64763042de0e8b55", func := "refectory/refectorylaw18.LockNil", spec := "lockNil", unfollowed := true, recurses := true, apart := false }
def LockNilSaid : Prop := lockNilRow.holds Try.pinned (OpenSpec.ofChange lockNilSpec)

/-- ITS FALSE NEIGHBOUR: 'it returns false'. Refute it at one input. -/
def lockNilWrong : ChangeSpec := { name := "lockNil", fn := fun _ => fun
  | [d1, d2, d3, d4, d5] => { results := [.lit (.bool false)], args := [d1, d2, d3, d4, d5] }
  | _ => none }
def LockNilWrongFalsely : Prop := lockNilRow.holds Try.pinned (OpenSpec.ofChange lockNilWrong)

/- THE SECOND FORM. 'bulk': how many values and letters a reading holds, each counted each time it is reached (what is shared counts as often as it is met; a slice's spare places count too). A statement '..UptoSaid' is the law's where the arguments, and the package variables that the reading takes, are together of bulk at most 1048576: NARROWER than '..Said'. Prove '..Said' where nothing that the law and all that it calls make is longer than what came in: it says more and counts as full. Else prove '..UptoSaid'. A law counts once. -/
mutual
def uptoBulk {H : Type} : DataW H → Nat
  | .lit (.string bytes) => bytes.length + 1
  | .lit _ => 1
  | .nil => 1
  | .ptr d => uptoBulk d + 1
  | .slice elems spare => uptoBulkAll elems + uptoBulkAll spare + 1
  | .agg parts => uptoBulkAll parts + 1
  | .iface _ d => uptoBulk d + 1
  | .map entries => uptoBulkEntries entries + 1
  | .held _ => 1
def uptoBulkAll {H : Type} : List (DataW H) → Nat
  | [] => 0
  | d :: r => uptoBulk d + uptoBulkAll r
def uptoBulkEntries {H : Type} : List (Lit × DataW H) → Nat
  | [] => 0
  | x :: r => uptoBulkEntry x + uptoBulkEntries r
def uptoBulkEntry {H : Type} : Lit × DataW H → Nat
  | (.string bytes, d) => bytes.length + uptoBulk d + 1
  | (_, d) => uptoBulk d + 1
 end
def uptoSmall : (H : Type) → List (DataW H) → Bool := fun _ ds => decide (uptoBulkAll ds ≤ 1048576)
def OpenSpec.upto (s : _root_.Go.ChangeSpec) : _root_.Go.OpenSpec := { _root_.Go.OpenSpec.ofChange s with cond := some uptoSmall }

/-- 'refectorylaw18.LockPlays', WHERE WHAT IT READS IS OF BULK AT MOST 1048576: true; the input reads as it did. -/
def lockPlaysUptoRow : OpenClaim := { program := "ytgcimkbggnjcdaa", sum := "5ebff930adc568fddda6e9f2aac04ff2e48ab193e9b9932d64763042de0e8b55", func := "refectory/refectorylaw18.LockPlays", spec := "lockPlays", unfollowed := true, recurses := true, apart := false, narrowed := true }
def LockPlaysUptoSaid : Prop := lockPlaysUptoRow.holds Try.pinned (OpenSpec.upto lockPlaysSpec)

/-- 'refectorylaw18.LockAlone', WHERE WHAT IT READS IS OF BULK AT MOST 1048576: true; the input reads as it did. -/
def lockAloneUptoRow : OpenClaim := { program := "ytgcimkbggnjcdaa", sum := "5ebff930adc568fddda6e9f2aac04ff2e48ab193e9b9932d64763042de0e8b55", func := "refectory/refectorylaw18.LockAlone", spec := "lockAlone", unfollowed := true, recurses := true, apart := false, narrowed := true }
def LockAloneUptoSaid : Prop := lockAloneUptoRow.holds Try.pinned (OpenSpec.upto lockAloneSpec)

/-- 'refectorylaw18.LockApart', WHERE WHAT IT READS IS OF BULK AT MOST 1048576: true; the input reads as it did. -/
def lockApartUptoRow : OpenClaim := { program := "ytgcimkbggnjcdaa", sum := "5ebff930adc568fddda6e9f2aac04ff2e48ab193e9b9932d64763042de0e8b55", func := "refectory/refectorylaw18.LockApart", spec := "lockApart", unfollowed := true, recurses := true, apart := false, narrowed := true }
def LockApartUptoSaid : Prop := lockApartUptoRow.holds Try.pinned (OpenSpec.upto lockApartSpec)

/-- 'refectorylaw18.LockBack', WHERE WHAT IT READS IS OF BULK AT MOST 1048576: true; the input reads as it did. -/
def lockBackUptoRow : OpenClaim := { program := "ytgcimkbggnjcdaa", sum := "5ebff930adc568fddda6e9f2aac04ff2e48ab193e9b9932d64763042de0e8b55", func := "refectory/refectorylaw18.LockBack", spec := "lockBack", unfollowed := true, recurses := true, apart := false, narrowed := true }
def LockBackUptoSaid : Prop := lockBackUptoRow.holds Try.pinned (OpenSpec.upto lockBackSpec)

/-- 'refectorylaw18.LockFresh', WHERE WHAT IT READS IS OF BULK AT MOST 1048576: true; the input reads as it did. -/
def lockFreshUptoRow : OpenClaim := { program := "ytgcimkbggnjcdaa", sum := "5ebff930adc568fddda6e9f2aac04ff2e48ab193e9b9932d64763042de0e8b55", func := "refectory/refectorylaw18.LockFresh", spec := "lockFresh", unfollowed := true, recurses := true, apart := false, narrowed := true }
def LockFreshUptoSaid : Prop := lockFreshUptoRow.holds Try.pinned (OpenSpec.upto lockFreshSpec)

/-- 'refectorylaw18.LockBars', WHERE WHAT IT READS IS OF BULK AT MOST 1048576: true; the input reads as it did. -/
def lockBarsUptoRow : OpenClaim := { program := "ytgcimkbggnjcdaa", sum := "5ebff930adc568fddda6e9f2aac04ff2e48ab193e9b9932d64763042de0e8b55", func := "refectory/refectorylaw18.LockBars", spec := "lockBars", unfollowed := true, recurses := true, apart := false, narrowed := true }
def LockBarsUptoSaid : Prop := lockBarsUptoRow.holds Try.pinned (OpenSpec.upto lockBarsSpec)

/-- 'refectorylaw18.LockCloses', WHERE WHAT IT READS IS OF BULK AT MOST 1048576: true; the input reads as it did. -/
def lockClosesUptoRow : OpenClaim := { program := "ytgcimkbggnjcdaa", sum := "5ebff930adc568fddda6e9f2aac04ff2e48ab193e9b9932d64763042de0e8b55", func := "refectory/refectorylaw18.LockCloses", spec := "lockCloses", unfollowed := true, recurses := true, apart := false, narrowed := true }
def LockClosesUptoSaid : Prop := lockClosesUptoRow.holds Try.pinned (OpenSpec.upto lockClosesSpec)

/-- 'refectorylaw18.LockNil', WHERE WHAT IT READS IS OF BULK AT MOST 1048576: true; the input reads as it did. -/
def lockNilUptoRow : OpenClaim := { program := "ytgcimkbggnjcdaa", sum := "5ebff930adc568fddda6e9f2aac04ff2e48ab193e9b9932d64763042de0e8b55", func := "refectory/refectorylaw18.LockNil", spec := "lockNil", unfollowed := true, recurses := true, apart := false, narrowed := true }
def LockNilUptoSaid : Prop := lockNilUptoRow.holds Try.pinned (OpenSpec.upto lockNilSpec)

end Rows
end Go.Proofs.Ytgcimkbggnjcdaa
