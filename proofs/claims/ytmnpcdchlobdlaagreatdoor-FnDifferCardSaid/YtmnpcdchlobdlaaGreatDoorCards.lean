/-
  DERIVED. GIVEN WITH THE SEED: THE CARDS: each row of YtmnpcdchlobdlaaGreatDoorRows.lean that lists a variable, with what it lists TIED to the program's text (the seventh form; the later family's looks); each row that meets fmt, with fmt's text TOLD by the authors' own Lean function (tested against real Go, not proved from fmt's source: count such statements apart). THE CARD IS WHAT COUNTS. Prove the row's statement (the work); the ties are given (YtmnpcdchlobdlaaGreatDoorTie.lean); close each card by the builder's one call (the guide's Derived/Test/ToyasCard.lean, 'card_holds'). Laid BY PROGRAM, IN A SANDBOX (cutbox-door.mjs). By AI agents, Wed Nov 11 2026. No macro, syntax, notation, axiom, sorry.
-/
import Derived.Test.YtmnpcdchlobdlaaGreatDoorRows
import GoSem.ClaimSeven
namespace Go.Proofs.YtmnpcdchlobdlaaGreatDoor
namespace Rows

/-- THE TIED CARD OF 'laws.FnDiffer'. -/
def fnDifferCard : Claim7 := { stood := { row := fnDifferRow, standIns := [], harness := (true, "8b1e07a44aa7842d540f2404fc59396895c314b34099284db964457987baa8fb"), looks := false }, kinds := [], alts := [], laidByText := true, laidKinds := [.data, .data, .data], laidTests := true, laidLooks := .later }
def FnDifferCardSaid : Prop := Claim7.holds Tryz.pinned (.plain (OpenSpec.ofChange fnDifferSpec)) fnDifferCard

/-- THE SECOND FORM's CARD OF 'laws.FnDiffer'. -/
def fnDifferUptoCard : Claim7 := { stood := { row := fnDifferUptoRow, standIns := [], harness := (true, "8b1e07a44aa7842d540f2404fc59396895c314b34099284db964457987baa8fb"), looks := false }, kinds := [], alts := [], laidByText := true, laidKinds := [.data, .data, .data], laidTests := true, laidLooks := .later }
def FnDifferUptoCardSaid : Prop := Claim7.holds Tryz.pinned (.plain (OpenSpec.upto fnDifferSpec)) fnDifferUptoCard
end Rows
end Go.Proofs.YtmnpcdchlobdlaaGreatDoor
