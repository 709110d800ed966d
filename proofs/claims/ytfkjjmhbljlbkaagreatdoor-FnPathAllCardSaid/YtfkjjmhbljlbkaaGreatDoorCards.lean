/-
  DERIVED. GIVEN WITH THE SEED: THE CARDS: each row of YtfkjjmhbljlbkaaGreatDoorRows.lean that lists a variable, with what it lists TIED to the program's text (the seventh form; the later family's looks); each row that meets fmt, with fmt's text TOLD by the authors' own Lean function (tested against real Go, not proved from fmt's source: count such statements apart). THE CARD IS WHAT COUNTS. Prove the row's statement (the work); the ties are given (YtfkjjmhbljlbkaaGreatDoorTie.lean); close each card by the builder's one call (the guide's Derived/Test/ToyasCard.lean, 'card_holds'). Laid BY PROGRAM, IN A SANDBOX (cutbox-door.mjs). By AI agents, Wed Nov 11 2026. No macro, syntax, notation, axiom, sorry.
-/
import Derived.Test.YtfkjjmhbljlbkaaGreatDoorRows
import GoSem.ClaimSeven
namespace Go.Proofs.YtfkjjmhbljlbkaaGreatDoor
namespace Rows

/-- THE TIED CARD OF 'laws.FnPathGet'. -/
def fnPathGetCard : Claim7 := { stood := { row := fnPathGetRow, standIns := [], harness := (true, "140d86809346171629c9791d3cf5c3f4066ae7818c852ed07900a343c47e88a3"), looks := false }, kinds := [], alts := [], laidByText := true, laidKinds := [.data, .data, .data], laidTests := true, laidLooks := .later }
def FnPathGetCardSaid : Prop := Claim7.holds Tryz.pinned (.plain (OpenSpec.ofChange fnPathGetSpec)) fnPathGetCard

/-- THE TIED CARD OF 'laws.FnPathAll'. -/
def fnPathAllCard : Claim7 := { stood := { row := fnPathAllRow, standIns := [], harness := (true, "140d86809346171629c9791d3cf5c3f4066ae7818c852ed07900a343c47e88a3"), looks := false }, kinds := [], alts := [], laidByText := true, laidKinds := [.data, .data, .data], laidTests := true, laidLooks := .later }
def FnPathAllCardSaid : Prop := Claim7.holds Tryz.pinned (.plain (OpenSpec.ofChange fnPathAllSpec)) fnPathAllCard

/-- THE SECOND FORM's CARD OF 'laws.FnPathGet'. -/
def fnPathGetUptoCard : Claim7 := { stood := { row := fnPathGetUptoRow, standIns := [], harness := (true, "140d86809346171629c9791d3cf5c3f4066ae7818c852ed07900a343c47e88a3"), looks := false }, kinds := [], alts := [], laidByText := true, laidKinds := [.data, .data, .data], laidTests := true, laidLooks := .later }
def FnPathGetUptoCardSaid : Prop := Claim7.holds Tryz.pinned (.plain (OpenSpec.upto fnPathGetSpec)) fnPathGetUptoCard

/-- THE SECOND FORM's CARD OF 'laws.FnPathAll'. -/
def fnPathAllUptoCard : Claim7 := { stood := { row := fnPathAllUptoRow, standIns := [], harness := (true, "140d86809346171629c9791d3cf5c3f4066ae7818c852ed07900a343c47e88a3"), looks := false }, kinds := [], alts := [], laidByText := true, laidKinds := [.data, .data, .data], laidTests := true, laidLooks := .later }
def FnPathAllUptoCardSaid : Prop := Claim7.holds Tryz.pinned (.plain (OpenSpec.upto fnPathAllSpec)) fnPathAllUptoCard
end Rows
end Go.Proofs.YtfkjjmhbljlbkaaGreatDoor
