/-
  DERIVED. GIVEN WITH THE SEED: THE CARDS: each row of YtjfmbdigfnablaaGreatDoorRows.lean that lists a variable, with what it lists TIED to the program's text (the seventh form; the later family's looks); each row that meets fmt, with fmt's text TOLD by the authors' own Lean function (tested against real Go, not proved from fmt's source: count such statements apart). THE CARD IS WHAT COUNTS. Prove the row's statement (the work); the ties are given (YtjfmbdigfnablaaGreatDoorTie.lean); close each card by the builder's one call (the guide's Derived/Test/ToyasCard.lean, 'card_holds'). Laid BY PROGRAM, IN A SANDBOX (cutbox-door.mjs). By AI agents, Wed Nov 11 2026. No macro, syntax, notation, axiom, sorry.
-/
import Derived.Test.YtjfmbdigfnablaaGreatDoorRows
import GoSem.ClaimSeven
namespace Go.Proofs.YtjfmbdigfnablaaGreatDoor
namespace Rows

/-- THE TIED CARD OF 'laws.FnSplitUntil'. -/
def fnSplitUntilCard : Claim7 := { stood := { row := fnSplitUntilRow, standIns := [], harness := (true, "09532293ad93ae334f7dca4813b4040878e7c72f06d7c45939dbf14fda03eed5"), looks := false }, kinds := [], alts := [], laidByText := true, laidKinds := [.data, .data, .data], laidTests := true, laidLooks := .later }
def FnSplitUntilCardSaid : Prop := Claim7.holds Tryz.pinned (.plain (OpenSpec.ofChange fnSplitUntilSpec)) fnSplitUntilCard

/-- THE SECOND FORM's CARD OF 'laws.FnSplitUntil'. -/
def fnSplitUntilUptoCard : Claim7 := { stood := { row := fnSplitUntilUptoRow, standIns := [], harness := (true, "09532293ad93ae334f7dca4813b4040878e7c72f06d7c45939dbf14fda03eed5"), looks := false }, kinds := [], alts := [], laidByText := true, laidKinds := [.data, .data, .data], laidTests := true, laidLooks := .later }
def FnSplitUntilUptoCardSaid : Prop := Claim7.holds Tryz.pinned (.plain (OpenSpec.upto fnSplitUntilSpec)) fnSplitUntilUptoCard
end Rows
end Go.Proofs.YtjfmbdigfnablaaGreatDoor
