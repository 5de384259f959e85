/-
  DERIVED. GIVEN WITH THE SEED: THE CARDS: each row of YtlbgepgpihklfaaDoorRows.lean that lists a variable, with what it lists TIED to the program's text (the seventh form; the later family's looks); each row that meets fmt, with fmt's text TOLD by the authors' own Lean function (tested against real Go, not proved from fmt's source: count such statements apart). THE CARD IS WHAT COUNTS. Prove the row's statement (the work); the ties are given (YtlbgepgpihklfaaDoorTie.lean); close each card by the builder's one call (the guide's Derived/Test/ToyasCard.lean, 'card_holds'). Laid BY PROGRAM, IN A SANDBOX (cutbox-door.mjs). By AI agents, Wed Nov 11 2026. No macro, syntax, notation, axiom, sorry.
-/
import Derived.Test.YtlbgepgpihklfaaDoorRows
import GoSem.ClaimSeven
namespace Go.Proofs.YtlbgepgpihklfaaDoor
namespace Rows

/-- THE TIED CARD OF 'limewashlaw05.RecordsKnown'. -/
def recordsKnownCard : Claim7 := { stood := { row := recordsKnownRow, standIns := [], harness := (true, "fb64a1d4468f3071800bada97a3d8c2c8baa69461393bbd14fd4a4393f4a9028"), looks := false }, kinds := [], alts := [], laidByText := true, laidKinds := [.data, .pinned], laidTests := true, laidLooks := .later }
def RecordsKnownCardSaid : Prop := Claim7.holds Tryd.pinned (.plain (OpenSpec.ofChange recordsKnownSpec)) recordsKnownCard

/-- THE TIED CARD OF 'limewashlaw05.RecordsSeals'. -/
def recordsSealsCard : Claim7 := { stood := { row := recordsSealsRow, standIns := [], harness := (true, "fb64a1d4468f3071800bada97a3d8c2c8baa69461393bbd14fd4a4393f4a9028"), looks := false }, kinds := [], alts := [], laidByText := true, laidKinds := [.data, .data, .pinned], laidTests := true, laidLooks := .later }
def RecordsSealsCardSaid : Prop := Claim7.holds Tryd.pinned (.plain (OpenSpec.ofChange recordsSealsSpec)) recordsSealsCard

/-- THE TIED CARD OF 'limewashlaw05.RecordsSealed'. -/
def recordsSealedCard : Claim7 := { stood := { row := recordsSealedRow, standIns := [], harness := (true, "fb64a1d4468f3071800bada97a3d8c2c8baa69461393bbd14fd4a4393f4a9028"), looks := false }, kinds := [], alts := [], laidByText := true, laidKinds := [.data, .data, .pinned], laidTests := true, laidLooks := .later }
def RecordsSealedCardSaid : Prop := Claim7.holds Tryd.pinned (.plain (OpenSpec.ofChange recordsSealedSpec)) recordsSealedCard

/-- THE SECOND FORM's CARD OF 'limewashlaw05.RecordsKnown'. -/
def recordsKnownUptoCard : Claim7 := { stood := { row := recordsKnownUptoRow, standIns := [], harness := (true, "fb64a1d4468f3071800bada97a3d8c2c8baa69461393bbd14fd4a4393f4a9028"), looks := false }, kinds := [], alts := [], laidByText := true, laidKinds := [.data, .pinned], laidTests := true, laidLooks := .later }
def RecordsKnownUptoCardSaid : Prop := Claim7.holds Tryd.pinned (.plain (OpenSpec.upto recordsKnownSpec)) recordsKnownUptoCard

/-- THE SECOND FORM's CARD OF 'limewashlaw05.RecordsSeals'. -/
def recordsSealsUptoCard : Claim7 := { stood := { row := recordsSealsUptoRow, standIns := [], harness := (true, "fb64a1d4468f3071800bada97a3d8c2c8baa69461393bbd14fd4a4393f4a9028"), looks := false }, kinds := [], alts := [], laidByText := true, laidKinds := [.data, .data, .pinned], laidTests := true, laidLooks := .later }
def RecordsSealsUptoCardSaid : Prop := Claim7.holds Tryd.pinned (.plain (OpenSpec.upto recordsSealsSpec)) recordsSealsUptoCard

/-- THE SECOND FORM's CARD OF 'limewashlaw05.RecordsSealed'. -/
def recordsSealedUptoCard : Claim7 := { stood := { row := recordsSealedUptoRow, standIns := [], harness := (true, "fb64a1d4468f3071800bada97a3d8c2c8baa69461393bbd14fd4a4393f4a9028"), looks := false }, kinds := [], alts := [], laidByText := true, laidKinds := [.data, .data, .pinned], laidTests := true, laidLooks := .later }
def RecordsSealedUptoCardSaid : Prop := Claim7.holds Tryd.pinned (.plain (OpenSpec.upto recordsSealedSpec)) recordsSealedUptoCard
end Rows
end Go.Proofs.YtlbgepgpihklfaaDoor
