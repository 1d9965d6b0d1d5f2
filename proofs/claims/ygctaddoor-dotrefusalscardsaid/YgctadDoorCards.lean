/-
  DERIVED. GIVEN WITH THE SEED: THE CARDS: each row of YgctadDoorRows.lean that lists a variable, with what it lists TIED to the program's text (the seventh form; the later family's looks); each row that meets fmt, with fmt's text TOLD by the authors' own Lean function (tested against real Go, not proved from fmt's source: count such statements apart). THE CARD IS WHAT COUNTS. Prove the row's statement (the work); the ties are given (YgctadDoorTie.lean); close each card by the builder's one call (the guide's Derived/Test/ToyasCard.lean, 'card_holds'). Laid BY PROGRAM, IN A SANDBOX (cutbox-door.mjs). By AI agents, Wed Nov 11 2026. No macro, syntax, notation, axiom, sorry.
-/
import Derived.Test.YgctadDoorRows
import GoSem.ClaimSeven
namespace Go.Proofs.YgctadDoor
namespace Rows

/-- THE TIED CARD OF 'law.DotsRight'. -/
def dotsRightCard : Claim7 := { stood := { row := dotsRightRow, standIns := [], harness := (true, "f02fccddf6565b151bc32e189cacdbfc35e8ded60d87eb975c3c8156684baaa4"), looks := false }, kinds := [], alts := [], laidByText := true, laidKinds := [.data], laidTests := true, laidLooks := .later }
def DotsRightCardSaid : Prop := Claim7.holds Tadg.pinned (.plain (OpenSpec.ofChange dotsRightSpec)) dotsRightCard

/-- THE TIED CARD OF 'law.DotRefusals'. -/
def dotRefusalsCard : Claim7 := { stood := { row := dotRefusalsRow, standIns := [], harness := (true, "f02fccddf6565b151bc32e189cacdbfc35e8ded60d87eb975c3c8156684baaa4"), looks := false }, kinds := [], alts := [], laidByText := true, laidKinds := [.data], laidTests := true, laidLooks := .later }
def DotRefusalsCardSaid : Prop := Claim7.holds Tadg.pinned (.plain (OpenSpec.ofChange dotRefusalsSpec)) dotRefusalsCard

/-- THE TIED CARD OF 'law.SplitExact'. -/
def splitExactCard : Claim7 := { stood := { row := splitExactRow, standIns := [], harness := (true, "f02fccddf6565b151bc32e189cacdbfc35e8ded60d87eb975c3c8156684baaa4"), looks := false }, kinds := [], alts := [], laidByText := true, laidKinds := [.data], laidTests := true, laidLooks := .later }
def SplitExactCardSaid : Prop := Claim7.holds Tadg.pinned (.plain (OpenSpec.ofChange splitExactSpec)) splitExactCard

/-- THE TIED CARD OF 'law.SplitJoin'. -/
def splitJoinCard : Claim7 := { stood := { row := splitJoinRow, standIns := [], harness := (true, "f02fccddf6565b151bc32e189cacdbfc35e8ded60d87eb975c3c8156684baaa4"), looks := false }, kinds := [], alts := [], laidByText := true, laidKinds := [.data], laidTests := true, laidLooks := .later }
def SplitJoinCardSaid : Prop := Claim7.holds Tadg.pinned (.plain (OpenSpec.ofChange splitJoinSpec)) splitJoinCard
end Rows
end Go.Proofs.YgctadDoor
