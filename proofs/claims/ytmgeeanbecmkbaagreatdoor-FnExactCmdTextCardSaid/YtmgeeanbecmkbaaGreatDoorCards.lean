/-
  DERIVED. GIVEN WITH THE SEED: THE CARDS: each row of YtmgeeanbecmkbaaGreatDoorRows.lean that lists a variable, with what it lists TIED to the program's text (the seventh form; the later family's looks); each row that meets fmt, with fmt's text TOLD by the authors' own Lean function (tested against real Go, not proved from fmt's source: count such statements apart). THE CARD IS WHAT COUNTS. Prove the row's statement (the work); the ties are given (YtmgeeanbecmkbaaGreatDoorTie.lean); close each card by the builder's one call (the guide's Derived/Test/ToyasCard.lean, 'card_holds'). Laid BY PROGRAM, IN A SANDBOX (cutbox-door.mjs). By AI agents, Wed Nov 11 2026. No macro, syntax, notation, axiom, sorry.
-/
import Derived.Test.YtmgeeanbecmkbaaGreatDoorRows
import GoSem.ClaimSeven
namespace Go.Proofs.YtmgeeanbecmkbaaGreatDoor
namespace Rows

/-- THE TIED CARD OF 'laws.FnExactCmdText'. -/
def fnExactCmdTextCard : Claim7 := { stood := { row := fnExactCmdTextRow, standIns := [], harness := (true, "0113d5dfd42d7827ac4b2bccd7420a20efd9af9512710b3d5b14e04ef6a66ccc"), looks := true }, kinds := [], alts := [], laidByText := true, laidKinds := [.data, .data, .data, .data, .sentinel, .sentinel, .pinned], laidTests := true, laidLooks := .later }
def FnExactCmdTextCardSaid : Prop := Claim7.holds Tryz.pinned (.plain (OpenSpec.ofChange fnExactCmdTextSpec)) fnExactCmdTextCard

/-- THE SECOND FORM's CARD OF 'laws.FnExactCmdText'. -/
def fnExactCmdTextUptoCard : Claim7 := { stood := { row := fnExactCmdTextUptoRow, standIns := [], harness := (true, "0113d5dfd42d7827ac4b2bccd7420a20efd9af9512710b3d5b14e04ef6a66ccc"), looks := true }, kinds := [], alts := [], laidByText := true, laidKinds := [.data, .data, .data, .data, .sentinel, .sentinel, .pinned], laidTests := true, laidLooks := .later }
def FnExactCmdTextUptoCardSaid : Prop := Claim7.holds Tryz.pinned (.plain (OpenSpec.upto fnExactCmdTextSpec)) fnExactCmdTextUptoCard
end Rows
end Go.Proofs.YtmgeeanbecmkbaaGreatDoor
