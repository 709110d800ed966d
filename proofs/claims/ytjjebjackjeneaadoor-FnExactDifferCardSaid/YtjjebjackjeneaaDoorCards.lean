/-
  DERIVED. GIVEN WITH THE SEED: THE CARDS: each row of YtjjebjackjeneaaDoorRows.lean that lists a variable, with what it lists TIED to the program's text (the seventh form; the later family's looks); each row that meets fmt, with fmt's text TOLD by the authors' own Lean function (tested against real Go, not proved from fmt's source: count such statements apart). THE CARD IS WHAT COUNTS. Prove the row's statement (the work); the ties are given (YtjjebjackjeneaaDoorTie.lean); close each card by the builder's one call (the guide's Derived/Test/ToyasCard.lean, 'card_holds'). Laid BY PROGRAM, IN A SANDBOX (cutbox-door.mjs). By AI agents, Wed Nov 11 2026. No macro, syntax, notation, axiom, sorry.
-/
import Derived.Test.YtjjebjackjeneaaDoorRows
import GoSem.ClaimSeven
namespace Go.Proofs.YtjjebjackjeneaaDoor
namespace Rows

/-- THE TIED CARD OF 'laws.FnExactDiffer'. -/
def fnExactDifferCard : Claim7 := { stood := { row := fnExactDifferRow, standIns := [], harness := (true, "3b7ce12edb3f842c4fb91c647722a5885810f0379ed581d7896aab57cfcd1df8"), looks := false }, kinds := [], alts := [], laidByText := true, laidKinds := [.data, .data, .data], laidTests := true, laidLooks := .later }
def FnExactDifferCardSaid : Prop := Claim7.holds Tryd.pinned (.plain (OpenSpec.ofChange fnExactDifferSpec)) fnExactDifferCard

/-- THE TIED CARD OF 'laws.FnExactPathAll'. -/
def fnExactPathAllCard : Claim7 := { stood := { row := fnExactPathAllRow, standIns := [], harness := (true, "3b7ce12edb3f842c4fb91c647722a5885810f0379ed581d7896aab57cfcd1df8"), looks := false }, kinds := [], alts := [], laidByText := true, laidKinds := [.data, .data, .data], laidTests := true, laidLooks := .later }
def FnExactPathAllCardSaid : Prop := Claim7.holds Tryd.pinned (.plain (OpenSpec.ofChange fnExactPathAllSpec)) fnExactPathAllCard

/-- THE TIED CARD OF 'laws.FnExactPathGet'. -/
def fnExactPathGetCard : Claim7 := { stood := { row := fnExactPathGetRow, standIns := [], harness := (true, "3b7ce12edb3f842c4fb91c647722a5885810f0379ed581d7896aab57cfcd1df8"), looks := false }, kinds := [], alts := [], laidByText := true, laidKinds := [.data, .data, .data], laidTests := true, laidLooks := .later }
def FnExactPathGetCardSaid : Prop := Claim7.holds Tryd.pinned (.plain (OpenSpec.ofChange fnExactPathGetSpec)) fnExactPathGetCard

/-- THE SECOND FORM's CARD OF 'laws.FnExactDiffer'. -/
def fnExactDifferUptoCard : Claim7 := { stood := { row := fnExactDifferUptoRow, standIns := [], harness := (true, "3b7ce12edb3f842c4fb91c647722a5885810f0379ed581d7896aab57cfcd1df8"), looks := false }, kinds := [], alts := [], laidByText := true, laidKinds := [.data, .data, .data], laidTests := true, laidLooks := .later }
def FnExactDifferUptoCardSaid : Prop := Claim7.holds Tryd.pinned (.plain (OpenSpec.upto fnExactDifferSpec)) fnExactDifferUptoCard

/-- THE SECOND FORM's CARD OF 'laws.FnExactPathAll'. -/
def fnExactPathAllUptoCard : Claim7 := { stood := { row := fnExactPathAllUptoRow, standIns := [], harness := (true, "3b7ce12edb3f842c4fb91c647722a5885810f0379ed581d7896aab57cfcd1df8"), looks := false }, kinds := [], alts := [], laidByText := true, laidKinds := [.data, .data, .data], laidTests := true, laidLooks := .later }
def FnExactPathAllUptoCardSaid : Prop := Claim7.holds Tryd.pinned (.plain (OpenSpec.upto fnExactPathAllSpec)) fnExactPathAllUptoCard

/-- THE SECOND FORM's CARD OF 'laws.FnExactPathGet'. -/
def fnExactPathGetUptoCard : Claim7 := { stood := { row := fnExactPathGetUptoRow, standIns := [], harness := (true, "3b7ce12edb3f842c4fb91c647722a5885810f0379ed581d7896aab57cfcd1df8"), looks := false }, kinds := [], alts := [], laidByText := true, laidKinds := [.data, .data, .data], laidTests := true, laidLooks := .later }
def FnExactPathGetUptoCardSaid : Prop := Claim7.holds Tryd.pinned (.plain (OpenSpec.upto fnExactPathGetSpec)) fnExactPathGetUptoCard
end Rows
end Go.Proofs.YtjjebjackjeneaaDoor
