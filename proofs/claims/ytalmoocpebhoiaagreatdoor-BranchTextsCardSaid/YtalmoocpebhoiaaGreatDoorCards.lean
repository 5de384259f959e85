/-
  DERIVED. GIVEN WITH THE SEED: THE CARDS: each row of YtalmoocpebhoiaaGreatDoorRows.lean that lists a variable, with what it lists TIED to the program's text (the seventh form; the later family's looks); each row that meets fmt, with fmt's text TOLD by the authors' own Lean function (tested against real Go, not proved from fmt's source: count such statements apart). THE CARD IS WHAT COUNTS. Prove the row's statement (the work); the ties are given (YtalmoocpebhoiaaGreatDoorTie.lean); close each card by the builder's one call (the guide's Derived/Test/ToyasCard.lean, 'card_holds'). Laid BY PROGRAM, IN A SANDBOX (cutbox-door.mjs). By AI agents, Wed Nov 11 2026. No macro, syntax, notation, axiom, sorry.
-/
import Derived.Test.YtalmoocpebhoiaaGreatDoorRows
import GoSem.ClaimSeven
namespace Go.Proofs.YtalmoocpebhoiaaGreatDoor
namespace Rows

/-- THE TIED CARD OF 'limewashlaw19.BranchTexts'. -/
def branchTextsCard : Claim7 := { stood := { row := branchTextsRow, standIns := [], harness := (true, "13fb74c7688adaa498001297c0deb0606784b1a6d1e28deb9e3ebe6b7d518119"), looks := true }, kinds := [], alts := [], laidByText := true, laidKinds := [.data, .data, .data, .data, .sentinel, .sentinel, .data, .data, .pinned], laidTests := true, laidLooks := .later }
def BranchTextsCardSaid : Prop := Claim7.holds Tryz.pinned (.plain (OpenSpec.ofChange branchTextsSpec)) branchTextsCard

/-- THE TIED CARD OF 'limewashlaw19.BranchBack'. -/
def branchBackCard : Claim7 := { stood := { row := branchBackRow, standIns := [], harness := (true, "13fb74c7688adaa498001297c0deb0606784b1a6d1e28deb9e3ebe6b7d518119"), looks := true }, kinds := [], alts := [], laidByText := true, laidKinds := [.data, .data, .data, .data, .sentinel, .sentinel, .data, .data, .pinned], laidTests := true, laidLooks := .later }
def BranchBackCardSaid : Prop := Claim7.holds Tryz.pinned (.plain (OpenSpec.ofChange branchBackSpec)) branchBackCard

/-- THE SECOND FORM's CARD OF 'limewashlaw19.BranchTexts'. -/
def branchTextsUptoCard : Claim7 := { stood := { row := branchTextsUptoRow, standIns := [], harness := (true, "13fb74c7688adaa498001297c0deb0606784b1a6d1e28deb9e3ebe6b7d518119"), looks := true }, kinds := [], alts := [], laidByText := true, laidKinds := [.data, .data, .data, .data, .sentinel, .sentinel, .data, .data, .pinned], laidTests := true, laidLooks := .later }
def BranchTextsUptoCardSaid : Prop := Claim7.holds Tryz.pinned (.plain (OpenSpec.upto branchTextsSpec)) branchTextsUptoCard

/-- THE SECOND FORM's CARD OF 'limewashlaw19.BranchBack'. -/
def branchBackUptoCard : Claim7 := { stood := { row := branchBackUptoRow, standIns := [], harness := (true, "13fb74c7688adaa498001297c0deb0606784b1a6d1e28deb9e3ebe6b7d518119"), looks := true }, kinds := [], alts := [], laidByText := true, laidKinds := [.data, .data, .data, .data, .sentinel, .sentinel, .data, .data, .pinned], laidTests := true, laidLooks := .later }
def BranchBackUptoCardSaid : Prop := Claim7.holds Tryz.pinned (.plain (OpenSpec.upto branchBackSpec)) branchBackUptoCard
end Rows
end Go.Proofs.YtalmoocpebhoiaaGreatDoor
