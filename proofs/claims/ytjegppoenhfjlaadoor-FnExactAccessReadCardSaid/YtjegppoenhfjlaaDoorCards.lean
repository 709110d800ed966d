/-
  DERIVED. GIVEN WITH THE SEED: THE CARDS: each row of YtjegppoenhfjlaaDoorRows.lean that lists a variable, with what it lists TIED to the program's text (the seventh form; the later family's looks); each row that meets fmt, with fmt's text TOLD by the authors' own Lean function (tested against real Go, not proved from fmt's source: count such statements apart). THE CARD IS WHAT COUNTS. Prove the row's statement (the work); the ties are given (YtjegppoenhfjlaaDoorTie.lean); close each card by the builder's one call (the guide's Derived/Test/ToyasCard.lean, 'card_holds'). Laid BY PROGRAM, IN A SANDBOX (cutbox-door.mjs). By AI agents, Wed Nov 11 2026. No macro, syntax, notation, axiom, sorry.
-/
import Derived.Test.YtjegppoenhfjlaaDoorRows
import GoSem.ClaimSeven
namespace Go.Proofs.YtjegppoenhfjlaaDoor
namespace Rows

/-- THE TIED CARD OF 'laws.FnExactAccessRead'. -/
def fnExactAccessReadCard : Claim7 := { stood := { row := fnExactAccessReadRow, standIns := [], harness := (true, "27618aff96a11116255cf72ec7cdc5b2673dc9044102af1260e16bf1485dbe7f"), looks := true }, kinds := [], alts := [], laidByText := true, laidKinds := [.data, .data, .data, .data, .sentinel, .sentinel, .pinned], laidTests := true, laidLooks := .later }
def FnExactAccessReadCardSaid : Prop := Claim7.holds Tryd.pinned (.plain (OpenSpec.ofChange fnExactAccessReadSpec)) fnExactAccessReadCard

/-- THE SECOND FORM's CARD OF 'laws.FnExactAccessRead'. -/
def fnExactAccessReadUptoCard : Claim7 := { stood := { row := fnExactAccessReadUptoRow, standIns := [], harness := (true, "27618aff96a11116255cf72ec7cdc5b2673dc9044102af1260e16bf1485dbe7f"), looks := true }, kinds := [], alts := [], laidByText := true, laidKinds := [.data, .data, .data, .data, .sentinel, .sentinel, .pinned], laidTests := true, laidLooks := .later }
def FnExactAccessReadUptoCardSaid : Prop := Claim7.holds Tryd.pinned (.plain (OpenSpec.upto fnExactAccessReadSpec)) fnExactAccessReadUptoCard
end Rows
end Go.Proofs.YtjegppoenhfjlaaDoor
