/-
  DERIVED. GIVEN WITH THE SEED: THE CARDS: each row of YtfkjjmhbljlbkaaDoorRows.lean that lists a variable, with what it lists TIED to the program's text (the seventh form; the later family's looks); each row that meets fmt, with fmt's text TOLD by the authors' own Lean function (tested against real Go, not proved from fmt's source: count such statements apart). THE CARD IS WHAT COUNTS. Prove the row's statement (the work); the ties are given (YtfkjjmhbljlbkaaDoorTie.lean); close each card by the builder's one call (the guide's Derived/Test/ToyasCard.lean, 'card_holds'). Laid BY PROGRAM, IN A SANDBOX (cutbox-door.mjs). By AI agents, Wed Nov 11 2026. No macro, syntax, notation, axiom, sorry.
-/
import Derived.Test.YtfkjjmhbljlbkaaDoorRows
import GoSem.ClaimSeven
namespace Go.Proofs.YtfkjjmhbljlbkaaDoor
namespace Rows

/-- THE TIED CARD OF 'laws.FnExactAccessText'. -/
def fnExactAccessTextCard : Claim7 := { stood := { row := fnExactAccessTextRow, standIns := [], harness := (true, "49997de60cece0772a91719d3cc53b407c0a53c110bf86891edff233521528df"), looks := false }, kinds := [], alts := [], laidByText := true, laidKinds := [.data, .data, .data], laidTests := true, laidLooks := .later }
def FnExactAccessTextCardSaid : Prop := Claim7.holds Tryd.pinned (.plain (OpenSpec.ofChange fnExactAccessTextSpec)) fnExactAccessTextCard

/-- THE TIED CARD OF 'laws.FnPipeAll'. -/
def fnPipeAllCard : Claim7 := { stood := { row := fnPipeAllRow, standIns := [], harness := (true, "49997de60cece0772a91719d3cc53b407c0a53c110bf86891edff233521528df"), looks := false }, kinds := [], alts := [], laidByText := true, laidKinds := [.data, .pinned], laidTests := true, laidLooks := .later }
def FnPipeAllCardSaid : Prop := Claim7.holds Tryd.pinned (.plain (OpenSpec.ofChange fnPipeAllSpec)) fnPipeAllCard

/-- THE TIED CARD OF 'laws.FnExactAccessGet'. -/
def fnExactAccessGetCard : Claim7 := { stood := { row := fnExactAccessGetRow, standIns := [], harness := (true, "49997de60cece0772a91719d3cc53b407c0a53c110bf86891edff233521528df"), looks := false }, kinds := [], alts := [], laidByText := true, laidKinds := [.data], laidTests := true, laidLooks := .later }
def FnExactAccessGetCardSaid : Prop := Claim7.holds Tryd.pinned (.plain (OpenSpec.ofChange fnExactAccessGetSpec)) fnExactAccessGetCard

/-- THE TIED CARD OF 'laws.FnExactAccessPut'. -/
def fnExactAccessPutCard : Claim7 := { stood := { row := fnExactAccessPutRow, standIns := [], harness := (true, "49997de60cece0772a91719d3cc53b407c0a53c110bf86891edff233521528df"), looks := false }, kinds := [], alts := [], laidByText := true, laidKinds := [.data], laidTests := true, laidLooks := .later }
def FnExactAccessPutCardSaid : Prop := Claim7.holds Tryd.pinned (.plain (OpenSpec.ofChange fnExactAccessPutSpec)) fnExactAccessPutCard

/-- THE TIED CARD OF 'laws.FnPipeBytes'. -/
def fnPipeBytesCard : Claim7 := { stood := { row := fnPipeBytesRow, standIns := [], harness := (true, "49997de60cece0772a91719d3cc53b407c0a53c110bf86891edff233521528df"), looks := false }, kinds := [], alts := [], laidByText := true, laidKinds := [.data, .pinned], laidTests := true, laidLooks := .later }
def FnPipeBytesCardSaid : Prop := Claim7.holds Tryd.pinned (.plain (OpenSpec.ofChange fnPipeBytesSpec)) fnPipeBytesCard

/-- THE TIED CARD OF 'laws.FnPipe'. -/
def fnPipeCard : Claim7 := { stood := { row := fnPipeRow, standIns := [], harness := (true, "49997de60cece0772a91719d3cc53b407c0a53c110bf86891edff233521528df"), looks := false }, kinds := [], alts := [], laidByText := true, laidKinds := [.data, .pinned], laidTests := true, laidLooks := .later }
def FnPipeCardSaid : Prop := Claim7.holds Tryd.pinned (.plain (OpenSpec.ofChange fnPipeSpec)) fnPipeCard

/-- THE TIED CARD OF 'laws.FnExactPathAll'. -/
def fnExactPathAllCard : Claim7 := { stood := { row := fnExactPathAllRow, standIns := [], harness := (true, "49997de60cece0772a91719d3cc53b407c0a53c110bf86891edff233521528df"), looks := false }, kinds := [], alts := [], laidByText := true, laidKinds := [.data, .data, .data], laidTests := true, laidLooks := .later }
def FnExactPathAllCardSaid : Prop := Claim7.holds Tryd.pinned (.plain (OpenSpec.ofChange fnExactPathAllSpec)) fnExactPathAllCard

/-- THE TIED CARD OF 'laws.FnExactPathGet'. -/
def fnExactPathGetCard : Claim7 := { stood := { row := fnExactPathGetRow, standIns := [], harness := (true, "49997de60cece0772a91719d3cc53b407c0a53c110bf86891edff233521528df"), looks := false }, kinds := [], alts := [], laidByText := true, laidKinds := [.data, .data, .data], laidTests := true, laidLooks := .later }
def FnExactPathGetCardSaid : Prop := Claim7.holds Tryd.pinned (.plain (OpenSpec.ofChange fnExactPathGetSpec)) fnExactPathGetCard

/-- THE TIED CARD OF 'laws.FnExactDiffer'. -/
def fnExactDifferCard : Claim7 := { stood := { row := fnExactDifferRow, standIns := [], harness := (true, "49997de60cece0772a91719d3cc53b407c0a53c110bf86891edff233521528df"), looks := false }, kinds := [], alts := [], laidByText := true, laidKinds := [.data, .data, .data], laidTests := true, laidLooks := .later }
def FnExactDifferCardSaid : Prop := Claim7.holds Tryd.pinned (.plain (OpenSpec.ofChange fnExactDifferSpec)) fnExactDifferCard

/-- THE SECOND FORM's CARD OF 'laws.FnExactAccessText'. -/
def fnExactAccessTextUptoCard : Claim7 := { stood := { row := fnExactAccessTextUptoRow, standIns := [], harness := (true, "49997de60cece0772a91719d3cc53b407c0a53c110bf86891edff233521528df"), looks := false }, kinds := [], alts := [], laidByText := true, laidKinds := [.data, .data, .data], laidTests := true, laidLooks := .later }
def FnExactAccessTextUptoCardSaid : Prop := Claim7.holds Tryd.pinned (.plain (OpenSpec.upto fnExactAccessTextSpec)) fnExactAccessTextUptoCard

/-- THE SECOND FORM's CARD OF 'laws.FnPipeAll'. -/
def fnPipeAllUptoCard : Claim7 := { stood := { row := fnPipeAllUptoRow, standIns := [], harness := (true, "49997de60cece0772a91719d3cc53b407c0a53c110bf86891edff233521528df"), looks := false }, kinds := [], alts := [], laidByText := true, laidKinds := [.data, .pinned], laidTests := true, laidLooks := .later }
def FnPipeAllUptoCardSaid : Prop := Claim7.holds Tryd.pinned (.plain (OpenSpec.upto fnPipeAllSpec)) fnPipeAllUptoCard

/-- THE SECOND FORM's CARD OF 'laws.FnExactAccessGet'. -/
def fnExactAccessGetUptoCard : Claim7 := { stood := { row := fnExactAccessGetUptoRow, standIns := [], harness := (true, "49997de60cece0772a91719d3cc53b407c0a53c110bf86891edff233521528df"), looks := false }, kinds := [], alts := [], laidByText := true, laidKinds := [.data], laidTests := true, laidLooks := .later }
def FnExactAccessGetUptoCardSaid : Prop := Claim7.holds Tryd.pinned (.plain (OpenSpec.upto fnExactAccessGetSpec)) fnExactAccessGetUptoCard

/-- THE SECOND FORM's CARD OF 'laws.FnExactAccessPut'. -/
def fnExactAccessPutUptoCard : Claim7 := { stood := { row := fnExactAccessPutUptoRow, standIns := [], harness := (true, "49997de60cece0772a91719d3cc53b407c0a53c110bf86891edff233521528df"), looks := false }, kinds := [], alts := [], laidByText := true, laidKinds := [.data], laidTests := true, laidLooks := .later }
def FnExactAccessPutUptoCardSaid : Prop := Claim7.holds Tryd.pinned (.plain (OpenSpec.upto fnExactAccessPutSpec)) fnExactAccessPutUptoCard

/-- THE SECOND FORM's CARD OF 'laws.FnPipeBytes'. -/
def fnPipeBytesUptoCard : Claim7 := { stood := { row := fnPipeBytesUptoRow, standIns := [], harness := (true, "49997de60cece0772a91719d3cc53b407c0a53c110bf86891edff233521528df"), looks := false }, kinds := [], alts := [], laidByText := true, laidKinds := [.data, .pinned], laidTests := true, laidLooks := .later }
def FnPipeBytesUptoCardSaid : Prop := Claim7.holds Tryd.pinned (.plain (OpenSpec.upto fnPipeBytesSpec)) fnPipeBytesUptoCard

/-- THE SECOND FORM's CARD OF 'laws.FnPipe'. -/
def fnPipeUptoCard : Claim7 := { stood := { row := fnPipeUptoRow, standIns := [], harness := (true, "49997de60cece0772a91719d3cc53b407c0a53c110bf86891edff233521528df"), looks := false }, kinds := [], alts := [], laidByText := true, laidKinds := [.data, .pinned], laidTests := true, laidLooks := .later }
def FnPipeUptoCardSaid : Prop := Claim7.holds Tryd.pinned (.plain (OpenSpec.upto fnPipeSpec)) fnPipeUptoCard

/-- THE SECOND FORM's CARD OF 'laws.FnExactPathAll'. -/
def fnExactPathAllUptoCard : Claim7 := { stood := { row := fnExactPathAllUptoRow, standIns := [], harness := (true, "49997de60cece0772a91719d3cc53b407c0a53c110bf86891edff233521528df"), looks := false }, kinds := [], alts := [], laidByText := true, laidKinds := [.data, .data, .data], laidTests := true, laidLooks := .later }
def FnExactPathAllUptoCardSaid : Prop := Claim7.holds Tryd.pinned (.plain (OpenSpec.upto fnExactPathAllSpec)) fnExactPathAllUptoCard

/-- THE SECOND FORM's CARD OF 'laws.FnExactPathGet'. -/
def fnExactPathGetUptoCard : Claim7 := { stood := { row := fnExactPathGetUptoRow, standIns := [], harness := (true, "49997de60cece0772a91719d3cc53b407c0a53c110bf86891edff233521528df"), looks := false }, kinds := [], alts := [], laidByText := true, laidKinds := [.data, .data, .data], laidTests := true, laidLooks := .later }
def FnExactPathGetUptoCardSaid : Prop := Claim7.holds Tryd.pinned (.plain (OpenSpec.upto fnExactPathGetSpec)) fnExactPathGetUptoCard

/-- THE SECOND FORM's CARD OF 'laws.FnExactDiffer'. -/
def fnExactDifferUptoCard : Claim7 := { stood := { row := fnExactDifferUptoRow, standIns := [], harness := (true, "49997de60cece0772a91719d3cc53b407c0a53c110bf86891edff233521528df"), looks := false }, kinds := [], alts := [], laidByText := true, laidKinds := [.data, .data, .data], laidTests := true, laidLooks := .later }
def FnExactDifferUptoCardSaid : Prop := Claim7.holds Tryd.pinned (.plain (OpenSpec.upto fnExactDifferSpec)) fnExactDifferUptoCard
end Rows
end Go.Proofs.YtfkjjmhbljlbkaaDoor
