/-
  No cell of these rows narrows 'for every input' (looked for: loops, veiled, ifaces, maps, wideKeys, modest, calm, conditions, laid).
  DERIVED. THE GIVEN ROWS OF THIS SEAT. 7 by the template 'for every input the law returns true; each argument reads behind the call as it read before'; 0 by the template 'total and deterministic' (their statements: YteglklcaaicjjaaTotals.lean).
  GIVEN WITH THE SEED: the statements are not yours to turn. If you find one false, say at which input.
  Laid BY PROGRAM, IN A SANDBOX (cutbox-rows.mjs): the forced cells as the released guide's own fill.sh prints them over the translation 54dc59c62e4c81e1… (all of the seat's roots in one cut). By AI agents, Wed Nov 11 2026. No macro, syntax, notation, axiom, sorry.
-/
import Derived.Test.YteglklcaaicjjaaChecked
import GoSem.Claim
import GoSem.ClaimJoined
import GoSem.ClaimMapViews
import Derived.JoinedTies
import Derived.KernelRfl
namespace Go.Proofs.Yteglklcaaicjjaa
/- THE CELL 'sum', in the pinned program and in every row, IS THE sha256 OF THE DUMP (.gsa) THAT YteglklcaaicjjaaProg.lean LOADS. Nothing in Lean hashes anything: it is a label: what it is worth is what the hold of that sum in a sandbox is worth. -/
noncomputable def Try.pinned : Pinned := { name := "yteglklcaaicjjaa", sum := "54dc59c62e4c81e11e568062849c3243acbe9850aeb0b7dde4c563dbebabeddc", checked := Try.checked }
namespace Rows
def none {H : Type} : Left H := { results := [], args := [] }

/-- 'refectorylaw21.CreditBounds': WHATEVER THE INPUT: true; the input reads as it did. -/
def creditBoundsSpec : ChangeSpec := { name := "creditBounds", fn := fun _ => fun
  | [d1, d2] => { results := [.lit (.bool true)], args := [d1, d2] }
  | _ => none }
def creditBoundsRow : OpenClaim := { program := "yteglklcaaicjjaa", sum := "54dc59c62e4c81e11e568062849c3243acbe9850aeb0b7dde4c563dbebabeddc", func := "refectory/refectorylaw21.CreditBounds", spec := "creditBounds", apart := false }
def CreditBoundsSaid : Prop := creditBoundsRow.holds Try.pinned (OpenSpec.ofChange creditBoundsSpec)

/-- ITS FALSE NEIGHBOUR: 'it returns false'. Refute it at one input. -/
def creditBoundsWrong : ChangeSpec := { name := "creditBounds", fn := fun _ => fun
  | [d1, d2] => { results := [.lit (.bool false)], args := [d1, d2] }
  | _ => none }
def CreditBoundsWrongFalsely : Prop := creditBoundsRow.holds Try.pinned (OpenSpec.ofChange creditBoundsWrong)

/-- 'refectorylaw21.CreditOnce': WHATEVER THE INPUT: true; the input reads as it did. -/
def creditOnceSpec : ChangeSpec := { name := "creditOnce", fn := fun _ => fun
  | [d1, d2] => { results := [.lit (.bool true)], args := [d1, d2] }
  | _ => none }
def creditOnceRow : OpenClaim := { program := "yteglklcaaicjjaa", sum := "54dc59c62e4c81e11e568062849c3243acbe9850aeb0b7dde4c563dbebabeddc", func := "refectory/refectorylaw21.CreditOnce", spec := "creditOnce", apart := false }
def CreditOnceSaid : Prop := creditOnceRow.holds Try.pinned (OpenSpec.ofChange creditOnceSpec)

/-- ITS FALSE NEIGHBOUR: 'it returns false'. Refute it at one input. -/
def creditOnceWrong : ChangeSpec := { name := "creditOnce", fn := fun _ => fun
  | [d1, d2] => { results := [.lit (.bool false)], args := [d1, d2] }
  | _ => none }
def CreditOnceWrongFalsely : Prop := creditOnceRow.holds Try.pinned (OpenSpec.ofChange creditOnceWrong)

/-- 'refectorylaw21.CreditPlays': WHATEVER THE INPUT: true; the input reads as it did. -/
def creditPlaysSpec : ChangeSpec := { name := "creditPlays", fn := fun _ => fun
  | [d1, d2] => { results := [.lit (.bool true)], args := [d1, d2] }
  | _ => none }
def creditPlaysRow : OpenClaim := { program := "yteglklcaaicjjaa", sum := "54dc59c62e4c81e11e568062849c3243acbe9850aeb0b7dde4c563dbebabeddc", func := "refectory/refectorylaw21.CreditPlays", spec := "creditPlays", recurses := true, apart := false }
def CreditPlaysSaid : Prop := creditPlaysRow.holds Try.pinned (OpenSpec.ofChange creditPlaysSpec)

/-- ITS FALSE NEIGHBOUR: 'it returns false'. Refute it at one input. -/
def creditPlaysWrong : ChangeSpec := { name := "creditPlays", fn := fun _ => fun
  | [d1, d2] => { results := [.lit (.bool false)], args := [d1, d2] }
  | _ => none }
def CreditPlaysWrongFalsely : Prop := creditPlaysRow.holds Try.pinned (OpenSpec.ofChange creditPlaysWrong)

/-- 'refectorylaw21.CreditThere': WHATEVER THE INPUT: true; the input reads as it did. -/
def creditThereSpec : ChangeSpec := { name := "creditThere", fn := fun _ => fun
  | [d1, d2, d3] => { results := [.lit (.bool true)], args := [d1, d2, d3] }
  | _ => none }
def creditThereRow : OpenClaim := { program := "yteglklcaaicjjaa", sum := "54dc59c62e4c81e11e568062849c3243acbe9850aeb0b7dde4c563dbebabeddc", func := "refectory/refectorylaw21.CreditThere", spec := "creditThere", recurses := true, apart := false }
def CreditThereSaid : Prop := creditThereRow.holds Try.pinned (OpenSpec.ofChange creditThereSpec)

/-- ITS FALSE NEIGHBOUR: 'it returns false'. Refute it at one input. -/
def creditThereWrong : ChangeSpec := { name := "creditThere", fn := fun _ => fun
  | [d1, d2, d3] => { results := [.lit (.bool false)], args := [d1, d2, d3] }
  | _ => none }
def CreditThereWrongFalsely : Prop := creditThereRow.holds Try.pinned (OpenSpec.ofChange creditThereWrong)

/-- 'refectorylaw21.CreditRun': WHATEVER THE INPUT: true; the input reads as it did. -/
def creditRunSpec : ChangeSpec := { name := "creditRun", fn := fun _ => fun
  | [d1, d2, d3, d4] => { results := [.lit (.bool true)], args := [d1, d2, d3, d4] }
  | _ => none }
def creditRunRow : OpenClaim := { program := "yteglklcaaicjjaa", sum := "54dc59c62e4c81e11e568062849c3243acbe9850aeb0b7dde4c563dbebabeddc", func := "refectory/refectorylaw21.CreditRun", spec := "creditRun", recurses := true, apart := false }
def CreditRunSaid : Prop := creditRunRow.holds Try.pinned (OpenSpec.ofChange creditRunSpec)

/-- ITS FALSE NEIGHBOUR: 'it returns false'. Refute it at one input. -/
def creditRunWrong : ChangeSpec := { name := "creditRun", fn := fun _ => fun
  | [d1, d2, d3, d4] => { results := [.lit (.bool false)], args := [d1, d2, d3, d4] }
  | _ => none }
def CreditRunWrongFalsely : Prop := creditRunRow.holds Try.pinned (OpenSpec.ofChange creditRunWrong)

/-- 'refectorylaw21.CreditFresh': WHATEVER THE INPUT: true; the input reads as it did. -/
def creditFreshSpec : ChangeSpec := { name := "creditFresh", fn := fun _ => fun
  | [d1, d2] => { results := [.lit (.bool true)], args := [d1, d2] }
  | _ => none }
def creditFreshRow : OpenClaim := { program := "yteglklcaaicjjaa", sum := "54dc59c62e4c81e11e568062849c3243acbe9850aeb0b7dde4c563dbebabeddc", func := "refectory/refectorylaw21.CreditFresh", spec := "creditFresh", recurses := true, apart := false }
def CreditFreshSaid : Prop := creditFreshRow.holds Try.pinned (OpenSpec.ofChange creditFreshSpec)

/-- ITS FALSE NEIGHBOUR: 'it returns false'. Refute it at one input. -/
def creditFreshWrong : ChangeSpec := { name := "creditFresh", fn := fun _ => fun
  | [d1, d2] => { results := [.lit (.bool false)], args := [d1, d2] }
  | _ => none }
def CreditFreshWrongFalsely : Prop := creditFreshRow.holds Try.pinned (OpenSpec.ofChange creditFreshWrong)

/-- 'refectorylaw21.CreditNil': WHATEVER THE INPUT: true; the input reads as it did. -/
def creditNilSpec : ChangeSpec := { name := "creditNil", fn := fun _ => fun
  | [d1, d2, d3, d4] => { results := [.lit (.bool true)], args := [d1, d2, d3, d4] }
  | _ => none }
def creditNilRow : OpenClaim := { program := "yteglklcaaicjjaa", sum := "54dc59c62e4c81e11e568062849c3243acbe9850aeb0b7dde4c563dbebabeddc", func := "refectory/refectorylaw21.CreditNil", spec := "creditNil", recurses := true, apart := false }
def CreditNilSaid : Prop := creditNilRow.holds Try.pinned (OpenSpec.ofChange creditNilSpec)

/-- ITS FALSE NEIGHBOUR: 'it returns false'. Refute it at one input. -/
def creditNilWrong : ChangeSpec := { name := "creditNil", fn := fun _ => fun
  | [d1, d2, d3, d4] => { results := [.lit (.bool false)], args := [d1, d2, d3, d4] }
  | _ => none }
def CreditNilWrongFalsely : Prop := creditNilRow.holds Try.pinned (OpenSpec.ofChange creditNilWrong)

/- THE SECOND FORM. 'bulk': how many values and letters a reading holds, each counted each time it is reached (what is shared counts as often as it is met; a slice's spare places count too). A statement '..UptoSaid' is the law's where the arguments, and the package variables that the reading takes, are together of bulk at most 1048576: NARROWER than '..Said'. Prove '..Said' where nothing that the law and all that it calls make is longer than what came in: it says more and counts as full. Else prove '..UptoSaid'. A law counts once. -/
mutual
def uptoBulk {H : Type} : DataW H → Nat
  | .lit (.string bytes) => bytes.length + 1
  | .lit _ => 1
  | .nil => 1
  | .ptr d => uptoBulk d + 1
  | .slice elems spare => uptoBulkAll elems + uptoBulkAll spare + 1
  | .agg parts => uptoBulkAll parts + 1
  | .iface _ d => uptoBulk d + 1
  | .map entries => uptoBulkEntries entries + 1
  | .held _ => 1
def uptoBulkAll {H : Type} : List (DataW H) → Nat
  | [] => 0
  | d :: r => uptoBulk d + uptoBulkAll r
def uptoBulkEntries {H : Type} : List (Lit × DataW H) → Nat
  | [] => 0
  | x :: r => uptoBulkEntry x + uptoBulkEntries r
def uptoBulkEntry {H : Type} : Lit × DataW H → Nat
  | (.string bytes, d) => bytes.length + uptoBulk d + 1
  | (_, d) => uptoBulk d + 1
 end
def uptoSmall : (H : Type) → List (DataW H) → Bool := fun _ ds => decide (uptoBulkAll ds ≤ 1048576)
def OpenSpec.upto (s : _root_.Go.ChangeSpec) : _root_.Go.OpenSpec := { _root_.Go.OpenSpec.ofChange s with cond := some uptoSmall }

/-- 'refectorylaw21.CreditBounds', WHERE WHAT IT READS IS OF BULK AT MOST 1048576: true; the input reads as it did. -/
def creditBoundsUptoRow : OpenClaim := { program := "yteglklcaaicjjaa", sum := "54dc59c62e4c81e11e568062849c3243acbe9850aeb0b7dde4c563dbebabeddc", func := "refectory/refectorylaw21.CreditBounds", spec := "creditBounds", apart := false, narrowed := true }
def CreditBoundsUptoSaid : Prop := creditBoundsUptoRow.holds Try.pinned (OpenSpec.upto creditBoundsSpec)

/-- 'refectorylaw21.CreditOnce', WHERE WHAT IT READS IS OF BULK AT MOST 1048576: true; the input reads as it did. -/
def creditOnceUptoRow : OpenClaim := { program := "yteglklcaaicjjaa", sum := "54dc59c62e4c81e11e568062849c3243acbe9850aeb0b7dde4c563dbebabeddc", func := "refectory/refectorylaw21.CreditOnce", spec := "creditOnce", apart := false, narrowed := true }
def CreditOnceUptoSaid : Prop := creditOnceUptoRow.holds Try.pinned (OpenSpec.upto creditOnceSpec)

/-- 'refectorylaw21.CreditPlays', WHERE WHAT IT READS IS OF BULK AT MOST 1048576: true; the input reads as it did. -/
def creditPlaysUptoRow : OpenClaim := { program := "yteglklcaaicjjaa", sum := "54dc59c62e4c81e11e568062849c3243acbe9850aeb0b7dde4c563dbebabeddc", func := "refectory/refectorylaw21.CreditPlays", spec := "creditPlays", recurses := true, apart := false, narrowed := true }
def CreditPlaysUptoSaid : Prop := creditPlaysUptoRow.holds Try.pinned (OpenSpec.upto creditPlaysSpec)

/-- 'refectorylaw21.CreditThere', WHERE WHAT IT READS IS OF BULK AT MOST 1048576: true; the input reads as it did. -/
def creditThereUptoRow : OpenClaim := { program := "yteglklcaaicjjaa", sum := "54dc59c62e4c81e11e568062849c3243acbe9850aeb0b7dde4c563dbebabeddc", func := "refectory/refectorylaw21.CreditThere", spec := "creditThere", recurses := true, apart := false, narrowed := true }
def CreditThereUptoSaid : Prop := creditThereUptoRow.holds Try.pinned (OpenSpec.upto creditThereSpec)

/-- 'refectorylaw21.CreditRun', WHERE WHAT IT READS IS OF BULK AT MOST 1048576: true; the input reads as it did. -/
def creditRunUptoRow : OpenClaim := { program := "yteglklcaaicjjaa", sum := "54dc59c62e4c81e11e568062849c3243acbe9850aeb0b7dde4c563dbebabeddc", func := "refectory/refectorylaw21.CreditRun", spec := "creditRun", recurses := true, apart := false, narrowed := true }
def CreditRunUptoSaid : Prop := creditRunUptoRow.holds Try.pinned (OpenSpec.upto creditRunSpec)

/-- 'refectorylaw21.CreditFresh', WHERE WHAT IT READS IS OF BULK AT MOST 1048576: true; the input reads as it did. -/
def creditFreshUptoRow : OpenClaim := { program := "yteglklcaaicjjaa", sum := "54dc59c62e4c81e11e568062849c3243acbe9850aeb0b7dde4c563dbebabeddc", func := "refectory/refectorylaw21.CreditFresh", spec := "creditFresh", recurses := true, apart := false, narrowed := true }
def CreditFreshUptoSaid : Prop := creditFreshUptoRow.holds Try.pinned (OpenSpec.upto creditFreshSpec)

/-- 'refectorylaw21.CreditNil', WHERE WHAT IT READS IS OF BULK AT MOST 1048576: true; the input reads as it did. -/
def creditNilUptoRow : OpenClaim := { program := "yteglklcaaicjjaa", sum := "54dc59c62e4c81e11e568062849c3243acbe9850aeb0b7dde4c563dbebabeddc", func := "refectory/refectorylaw21.CreditNil", spec := "creditNil", recurses := true, apart := false, narrowed := true }
def CreditNilUptoSaid : Prop := creditNilUptoRow.holds Try.pinned (OpenSpec.upto creditNilSpec)

end Rows
end Go.Proofs.Yteglklcaaicjjaa
