/-
  DERIVED. GIVEN WITH THE SEED: THE CARDS: each row of YtmeapfckibbbbaaDoorRows.lean that lists a variable, with what it lists TIED to the program's text (the seventh form; the later family's looks); each row that meets fmt, with fmt's text TOLD by the authors' own Lean function (tested against real Go, not proved from fmt's source: count such statements apart). THE CARD IS WHAT COUNTS. Prove the row's statement (the work); the ties are given (YtmeapfckibbbbaaDoorTie.lean); close each card by the builder's one call (the guide's Derived/Test/ToyasCard.lean, 'card_holds'). Laid BY PROGRAM, IN A SANDBOX (cutbox-door.mjs). By AI agents, Wed Nov 11 2026. No macro, syntax, notation, axiom, sorry.
-/
import Derived.Test.YtmeapfckibbbbaaDoorRows
import GoSem.ClaimSeven
namespace Go.Proofs.YtmeapfckibbbbaaDoor
namespace Rows

/-- THE TIED CARD OF 'limewashlaw01.WordsSplits'. -/
def wordsSplitsCard : Claim7 := { stood := { row := wordsSplitsRow, standIns := [], harness := (true, "bb52b2f874d12ee9c5ba191edb85bc4c52229f2bb6de5f634a3fe26ed31bad66"), looks := true }, kinds := [], alts := [], laidByText := true, laidKinds := [.data, .data, .data, .data, .sentinel, .sentinel, .data, .pinned], laidTests := true, laidLooks := .later }
def WordsSplitsCardSaid : Prop := Claim7.holds Tryd.pinned (.plain (OpenSpec.ofChange wordsSplitsSpec)) wordsSplitsCard

/-- THE TIED CARD OF 'limewashlaw01.WordsNames'. -/
def wordsNamesCard : Claim7 := { stood := { row := wordsNamesRow, standIns := [], harness := (true, "bb52b2f874d12ee9c5ba191edb85bc4c52229f2bb6de5f634a3fe26ed31bad66"), looks := true }, kinds := [], alts := [], laidByText := true, laidKinds := [.data, .data, .data, .data, .sentinel, .sentinel, .data, .pinned], laidTests := true, laidLooks := .later }
def WordsNamesCardSaid : Prop := Claim7.holds Tryd.pinned (.plain (OpenSpec.ofChange wordsNamesSpec)) wordsNamesCard

/-- THE TIED CARD OF 'limewashlaw01.WordsQuotes'. -/
def wordsQuotesCard : Claim7 := { stood := { row := wordsQuotesRow, standIns := [], harness := (true, "bb52b2f874d12ee9c5ba191edb85bc4c52229f2bb6de5f634a3fe26ed31bad66"), looks := true }, kinds := [], alts := [], laidByText := true, laidKinds := [.data, .data, .data, .data, .sentinel, .sentinel, .data, .pinned], laidTests := true, laidLooks := .later }
def WordsQuotesCardSaid : Prop := Claim7.holds Tryd.pinned (.plain (OpenSpec.ofChange wordsQuotesSpec)) wordsQuotesCard

/-- THE TIED CARD OF 'limewashlaw01.WordsJoins'. -/
def wordsJoinsCard : Claim7 := { stood := { row := wordsJoinsRow, standIns := [], harness := (true, "bb52b2f874d12ee9c5ba191edb85bc4c52229f2bb6de5f634a3fe26ed31bad66"), looks := true }, kinds := [], alts := [], laidByText := true, laidKinds := [.data, .data, .data, .data, .sentinel, .sentinel, .data, .pinned], laidTests := true, laidLooks := .later }
def WordsJoinsCardSaid : Prop := Claim7.holds Tryd.pinned (.plain (OpenSpec.ofChange wordsJoinsSpec)) wordsJoinsCard

/-- THE TIED CARD OF 'limewashlaw01.WordsBoth'. -/
def wordsBothCard : Claim7 := { stood := { row := wordsBothRow, standIns := [], harness := (true, "bb52b2f874d12ee9c5ba191edb85bc4c52229f2bb6de5f634a3fe26ed31bad66"), looks := true }, kinds := [], alts := [], laidByText := true, laidKinds := [.data, .data, .data, .data, .sentinel, .sentinel, .data, .pinned], laidTests := true, laidLooks := .later }
def WordsBothCardSaid : Prop := Claim7.holds Tryd.pinned (.plain (OpenSpec.ofChange wordsBothSpec)) wordsBothCard

/-- THE TIED CARD OF 'limewashlaw01.WordsLines'. -/
def wordsLinesCard : Claim7 := { stood := { row := wordsLinesRow, standIns := [], harness := (true, "bb52b2f874d12ee9c5ba191edb85bc4c52229f2bb6de5f634a3fe26ed31bad66"), looks := true }, kinds := [], alts := [], laidByText := true, laidKinds := [.data, .data, .data, .data, .sentinel, .sentinel, .data, .pinned], laidTests := true, laidLooks := .later }
def WordsLinesCardSaid : Prop := Claim7.holds Tryd.pinned (.plain (OpenSpec.ofChange wordsLinesSpec)) wordsLinesCard

/-- THE SECOND FORM's CARD OF 'limewashlaw01.WordsSplits'. -/
def wordsSplitsUptoCard : Claim7 := { stood := { row := wordsSplitsUptoRow, standIns := [], harness := (true, "bb52b2f874d12ee9c5ba191edb85bc4c52229f2bb6de5f634a3fe26ed31bad66"), looks := true }, kinds := [], alts := [], laidByText := true, laidKinds := [.data, .data, .data, .data, .sentinel, .sentinel, .data, .pinned], laidTests := true, laidLooks := .later }
def WordsSplitsUptoCardSaid : Prop := Claim7.holds Tryd.pinned (.plain (OpenSpec.upto wordsSplitsSpec)) wordsSplitsUptoCard

/-- THE SECOND FORM's CARD OF 'limewashlaw01.WordsNames'. -/
def wordsNamesUptoCard : Claim7 := { stood := { row := wordsNamesUptoRow, standIns := [], harness := (true, "bb52b2f874d12ee9c5ba191edb85bc4c52229f2bb6de5f634a3fe26ed31bad66"), looks := true }, kinds := [], alts := [], laidByText := true, laidKinds := [.data, .data, .data, .data, .sentinel, .sentinel, .data, .pinned], laidTests := true, laidLooks := .later }
def WordsNamesUptoCardSaid : Prop := Claim7.holds Tryd.pinned (.plain (OpenSpec.upto wordsNamesSpec)) wordsNamesUptoCard

/-- THE SECOND FORM's CARD OF 'limewashlaw01.WordsQuotes'. -/
def wordsQuotesUptoCard : Claim7 := { stood := { row := wordsQuotesUptoRow, standIns := [], harness := (true, "bb52b2f874d12ee9c5ba191edb85bc4c52229f2bb6de5f634a3fe26ed31bad66"), looks := true }, kinds := [], alts := [], laidByText := true, laidKinds := [.data, .data, .data, .data, .sentinel, .sentinel, .data, .pinned], laidTests := true, laidLooks := .later }
def WordsQuotesUptoCardSaid : Prop := Claim7.holds Tryd.pinned (.plain (OpenSpec.upto wordsQuotesSpec)) wordsQuotesUptoCard

/-- THE SECOND FORM's CARD OF 'limewashlaw01.WordsJoins'. -/
def wordsJoinsUptoCard : Claim7 := { stood := { row := wordsJoinsUptoRow, standIns := [], harness := (true, "bb52b2f874d12ee9c5ba191edb85bc4c52229f2bb6de5f634a3fe26ed31bad66"), looks := true }, kinds := [], alts := [], laidByText := true, laidKinds := [.data, .data, .data, .data, .sentinel, .sentinel, .data, .pinned], laidTests := true, laidLooks := .later }
def WordsJoinsUptoCardSaid : Prop := Claim7.holds Tryd.pinned (.plain (OpenSpec.upto wordsJoinsSpec)) wordsJoinsUptoCard

/-- THE SECOND FORM's CARD OF 'limewashlaw01.WordsBoth'. -/
def wordsBothUptoCard : Claim7 := { stood := { row := wordsBothUptoRow, standIns := [], harness := (true, "bb52b2f874d12ee9c5ba191edb85bc4c52229f2bb6de5f634a3fe26ed31bad66"), looks := true }, kinds := [], alts := [], laidByText := true, laidKinds := [.data, .data, .data, .data, .sentinel, .sentinel, .data, .pinned], laidTests := true, laidLooks := .later }
def WordsBothUptoCardSaid : Prop := Claim7.holds Tryd.pinned (.plain (OpenSpec.upto wordsBothSpec)) wordsBothUptoCard

/-- THE SECOND FORM's CARD OF 'limewashlaw01.WordsLines'. -/
def wordsLinesUptoCard : Claim7 := { stood := { row := wordsLinesUptoRow, standIns := [], harness := (true, "bb52b2f874d12ee9c5ba191edb85bc4c52229f2bb6de5f634a3fe26ed31bad66"), looks := true }, kinds := [], alts := [], laidByText := true, laidKinds := [.data, .data, .data, .data, .sentinel, .sentinel, .data, .pinned], laidTests := true, laidLooks := .later }
def WordsLinesUptoCardSaid : Prop := Claim7.holds Tryd.pinned (.plain (OpenSpec.upto wordsLinesSpec)) wordsLinesUptoCard
end Rows
end Go.Proofs.YtmeapfckibbbbaaDoor
