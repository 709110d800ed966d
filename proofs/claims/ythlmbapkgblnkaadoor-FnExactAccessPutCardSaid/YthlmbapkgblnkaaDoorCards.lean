/-
  DERIVED. GIVEN WITH THE SEED: THE CARDS: each row of YthlmbapkgblnkaaDoorRows.lean that lists a variable, with what it lists TIED to the program's text (the seventh form; the later family's looks); each row that meets fmt, with fmt's text TOLD by the authors' own Lean function (tested against real Go, not proved from fmt's source: count such statements apart). THE CARD IS WHAT COUNTS. Prove the row's statement (the work); the ties are given (YthlmbapkgblnkaaDoorTie.lean); close each card by the builder's one call (the guide's Derived/Test/ToyasCard.lean, 'card_holds'). Laid BY PROGRAM, IN A SANDBOX (cutbox-door.mjs). By AI agents, Wed Nov 11 2026. No macro, syntax, notation, axiom, sorry.
-/
import Derived.Test.YthlmbapkgblnkaaDoorRows
import GoSem.ClaimSeven
namespace Go.Proofs.YthlmbapkgblnkaaDoor
namespace Rows

/-- THE TIED CARD OF 'laws.FnExactAccessGet'. -/
def fnExactAccessGetCard : Claim7 := { stood := { row := fnExactAccessGetRow, standIns := [], harness := (true, "393513340117370e180f89f17c63fde11211ac0760fdaa66ce3c233643e616a3"), looks := false }, kinds := [], alts := [], laidByText := true, laidKinds := [.data], laidTests := true, laidLooks := .later }
def FnExactAccessGetCardSaid : Prop := Claim7.holds Tryd.pinned (.plain (OpenSpec.ofChange fnExactAccessGetSpec)) fnExactAccessGetCard

/-- THE TIED CARD OF 'laws.FnExactAccessPut'. -/
def fnExactAccessPutCard : Claim7 := { stood := { row := fnExactAccessPutRow, standIns := [], harness := (true, "393513340117370e180f89f17c63fde11211ac0760fdaa66ce3c233643e616a3"), looks := false }, kinds := [], alts := [], laidByText := true, laidKinds := [.data], laidTests := true, laidLooks := .later }
def FnExactAccessPutCardSaid : Prop := Claim7.holds Tryd.pinned (.plain (OpenSpec.ofChange fnExactAccessPutSpec)) fnExactAccessPutCard

/-- THE SECOND FORM's CARD OF 'laws.FnExactAccessGet'. -/
def fnExactAccessGetUptoCard : Claim7 := { stood := { row := fnExactAccessGetUptoRow, standIns := [], harness := (true, "393513340117370e180f89f17c63fde11211ac0760fdaa66ce3c233643e616a3"), looks := false }, kinds := [], alts := [], laidByText := true, laidKinds := [.data], laidTests := true, laidLooks := .later }
def FnExactAccessGetUptoCardSaid : Prop := Claim7.holds Tryd.pinned (.plain (OpenSpec.upto fnExactAccessGetSpec)) fnExactAccessGetUptoCard

/-- THE SECOND FORM's CARD OF 'laws.FnExactAccessPut'. -/
def fnExactAccessPutUptoCard : Claim7 := { stood := { row := fnExactAccessPutUptoRow, standIns := [], harness := (true, "393513340117370e180f89f17c63fde11211ac0760fdaa66ce3c233643e616a3"), looks := false }, kinds := [], alts := [], laidByText := true, laidKinds := [.data], laidTests := true, laidLooks := .later }
def FnExactAccessPutUptoCardSaid : Prop := Claim7.holds Tryd.pinned (.plain (OpenSpec.upto fnExactAccessPutSpec)) fnExactAccessPutUptoCard
end Rows
end Go.Proofs.YthlmbapkgblnkaaDoor
