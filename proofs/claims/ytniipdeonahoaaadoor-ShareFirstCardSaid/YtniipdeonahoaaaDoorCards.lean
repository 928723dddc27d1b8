/-
  DERIVED. GIVEN WITH THE SEED: THE CARDS: each row of YtniipdeonahoaaaDoorRows.lean that lists a variable, with what it lists TIED to the program's text (the seventh form; the later family's looks); each row that meets fmt, with fmt's text TOLD by the authors' own Lean function (tested against real Go, not proved from fmt's source: count such statements apart). THE CARD IS WHAT COUNTS. Prove the row's statement (the work); the ties are given (YtniipdeonahoaaaDoorTie.lean); close each card by the builder's one call (the guide's Derived/Test/ToyasCard.lean, 'card_holds'). Laid BY PROGRAM, IN A SANDBOX (cutbox-door.mjs). By AI agents, Wed Nov 11 2026. No macro, syntax, notation, axiom, sorry.
-/
import Derived.Test.YtniipdeonahoaaaDoorRows
import GoSem.ClaimSeven
namespace Go.Proofs.YtniipdeonahoaaaDoor
namespace Rows

/-- THE TIED CARD OF 'refectorylaw17.ShareMay'. -/
def shareMayCard : Claim7 := { stood := { row := shareMayRow, standIns := [], harness := (true, "bc5a38d50b2614ac22586513d84beeaad9dc9213789469e9662e3a624ae954d8"), looks := false }, kinds := [], alts := [], laidByText := true, laidKinds := [.data], laidTests := true, laidLooks := .later }
def ShareMayCardSaid : Prop := Claim7.holds Tryd.pinned (.plain (OpenSpec.ofChange shareMaySpec)) shareMayCard

/-- THE TIED CARD OF 'refectorylaw17.ShareDoes'. -/
def shareDoesCard : Claim7 := { stood := { row := shareDoesRow, standIns := [], harness := (true, "bc5a38d50b2614ac22586513d84beeaad9dc9213789469e9662e3a624ae954d8"), looks := false }, kinds := [], alts := [], laidByText := true, laidKinds := [.data], laidTests := true, laidLooks := .later }
def ShareDoesCardSaid : Prop := Claim7.holds Tryd.pinned (.plain (OpenSpec.ofChange shareDoesSpec)) shareDoesCard

/-- THE TIED CARD OF 'refectorylaw17.ShareBoth'. -/
def shareBothCard : Claim7 := { stood := { row := shareBothRow, standIns := [], harness := (true, "bc5a38d50b2614ac22586513d84beeaad9dc9213789469e9662e3a624ae954d8"), looks := false }, kinds := [], alts := [], laidByText := true, laidKinds := [.data], laidTests := true, laidLooks := .later }
def ShareBothCardSaid : Prop := Claim7.holds Tryd.pinned (.plain (OpenSpec.ofChange shareBothSpec)) shareBothCard

/-- THE TIED CARD OF 'refectorylaw17.ShareLess'. -/
def shareLessCard : Claim7 := { stood := { row := shareLessRow, standIns := [], harness := (true, "bc5a38d50b2614ac22586513d84beeaad9dc9213789469e9662e3a624ae954d8"), looks := false }, kinds := [], alts := [], laidByText := true, laidKinds := [.data], laidTests := true, laidLooks := .later }
def ShareLessCardSaid : Prop := Claim7.holds Tryd.pinned (.plain (OpenSpec.ofChange shareLessSpec)) shareLessCard

/-- THE TIED CARD OF 'refectorylaw17.ShareWays'. -/
def shareWaysCard : Claim7 := { stood := { row := shareWaysRow, standIns := [], harness := (true, "bc5a38d50b2614ac22586513d84beeaad9dc9213789469e9662e3a624ae954d8"), looks := false }, kinds := [], alts := [], laidByText := true, laidKinds := [.data], laidTests := true, laidLooks := .later }
def ShareWaysCardSaid : Prop := Claim7.holds Tryd.pinned (.plain (OpenSpec.ofChange shareWaysSpec)) shareWaysCard

/-- THE TIED CARD OF 'refectorylaw17.ShareClash'. -/
def shareClashCard : Claim7 := { stood := { row := shareClashRow, standIns := [], harness := (true, "bc5a38d50b2614ac22586513d84beeaad9dc9213789469e9662e3a624ae954d8"), looks := false }, kinds := [], alts := [], laidByText := true, laidKinds := [.data], laidTests := true, laidLooks := .later }
def ShareClashCardSaid : Prop := Claim7.holds Tryd.pinned (.plain (OpenSpec.ofChange shareClashSpec)) shareClashCard

/-- THE TIED CARD OF 'refectorylaw17.ShareFirst'. -/
def shareFirstCard : Claim7 := { stood := { row := shareFirstRow, standIns := [], harness := (true, "bc5a38d50b2614ac22586513d84beeaad9dc9213789469e9662e3a624ae954d8"), looks := false }, kinds := [], alts := [], laidByText := true, laidKinds := [.data], laidTests := true, laidLooks := .later }
def ShareFirstCardSaid : Prop := Claim7.holds Tryd.pinned (.plain (OpenSpec.ofChange shareFirstSpec)) shareFirstCard

/-- THE SECOND FORM's CARD OF 'refectorylaw17.ShareMay'. -/
def shareMayUptoCard : Claim7 := { stood := { row := shareMayUptoRow, standIns := [], harness := (true, "bc5a38d50b2614ac22586513d84beeaad9dc9213789469e9662e3a624ae954d8"), looks := false }, kinds := [], alts := [], laidByText := true, laidKinds := [.data], laidTests := true, laidLooks := .later }
def ShareMayUptoCardSaid : Prop := Claim7.holds Tryd.pinned (.plain (OpenSpec.upto shareMaySpec)) shareMayUptoCard

/-- THE SECOND FORM's CARD OF 'refectorylaw17.ShareDoes'. -/
def shareDoesUptoCard : Claim7 := { stood := { row := shareDoesUptoRow, standIns := [], harness := (true, "bc5a38d50b2614ac22586513d84beeaad9dc9213789469e9662e3a624ae954d8"), looks := false }, kinds := [], alts := [], laidByText := true, laidKinds := [.data], laidTests := true, laidLooks := .later }
def ShareDoesUptoCardSaid : Prop := Claim7.holds Tryd.pinned (.plain (OpenSpec.upto shareDoesSpec)) shareDoesUptoCard

/-- THE SECOND FORM's CARD OF 'refectorylaw17.ShareBoth'. -/
def shareBothUptoCard : Claim7 := { stood := { row := shareBothUptoRow, standIns := [], harness := (true, "bc5a38d50b2614ac22586513d84beeaad9dc9213789469e9662e3a624ae954d8"), looks := false }, kinds := [], alts := [], laidByText := true, laidKinds := [.data], laidTests := true, laidLooks := .later }
def ShareBothUptoCardSaid : Prop := Claim7.holds Tryd.pinned (.plain (OpenSpec.upto shareBothSpec)) shareBothUptoCard

/-- THE SECOND FORM's CARD OF 'refectorylaw17.ShareLess'. -/
def shareLessUptoCard : Claim7 := { stood := { row := shareLessUptoRow, standIns := [], harness := (true, "bc5a38d50b2614ac22586513d84beeaad9dc9213789469e9662e3a624ae954d8"), looks := false }, kinds := [], alts := [], laidByText := true, laidKinds := [.data], laidTests := true, laidLooks := .later }
def ShareLessUptoCardSaid : Prop := Claim7.holds Tryd.pinned (.plain (OpenSpec.upto shareLessSpec)) shareLessUptoCard

/-- THE SECOND FORM's CARD OF 'refectorylaw17.ShareWays'. -/
def shareWaysUptoCard : Claim7 := { stood := { row := shareWaysUptoRow, standIns := [], harness := (true, "bc5a38d50b2614ac22586513d84beeaad9dc9213789469e9662e3a624ae954d8"), looks := false }, kinds := [], alts := [], laidByText := true, laidKinds := [.data], laidTests := true, laidLooks := .later }
def ShareWaysUptoCardSaid : Prop := Claim7.holds Tryd.pinned (.plain (OpenSpec.upto shareWaysSpec)) shareWaysUptoCard

/-- THE SECOND FORM's CARD OF 'refectorylaw17.ShareClash'. -/
def shareClashUptoCard : Claim7 := { stood := { row := shareClashUptoRow, standIns := [], harness := (true, "bc5a38d50b2614ac22586513d84beeaad9dc9213789469e9662e3a624ae954d8"), looks := false }, kinds := [], alts := [], laidByText := true, laidKinds := [.data], laidTests := true, laidLooks := .later }
def ShareClashUptoCardSaid : Prop := Claim7.holds Tryd.pinned (.plain (OpenSpec.upto shareClashSpec)) shareClashUptoCard

/-- THE SECOND FORM's CARD OF 'refectorylaw17.ShareFirst'. -/
def shareFirstUptoCard : Claim7 := { stood := { row := shareFirstUptoRow, standIns := [], harness := (true, "bc5a38d50b2614ac22586513d84beeaad9dc9213789469e9662e3a624ae954d8"), looks := false }, kinds := [], alts := [], laidByText := true, laidKinds := [.data], laidTests := true, laidLooks := .later }
def ShareFirstUptoCardSaid : Prop := Claim7.holds Tryd.pinned (.plain (OpenSpec.upto shareFirstSpec)) shareFirstUptoCard
end Rows
end Go.Proofs.YtniipdeonahoaaaDoor
