/-
  No cell of these rows narrows 'for every input' (looked for: loops, veiled, ifaces, maps, wideKeys, modest, calm, conditions, laid).
  DERIVED. THE GIVEN ROWS OF THIS SEAT. 8 by the template 'for every input the law returns true; each argument reads behind the call as it read before'; 0 by the template 'total and deterministic' (their statements: YthhpofehcnjmmaaTotals.lean).
  GIVEN WITH THE SEED: the statements are not yours to turn. If you find one false, say at which input.
  Laid BY PROGRAM, IN A SANDBOX (cutbox-rows.mjs): the forced cells as the released guide's own fill.sh prints them over the translation fe9cc0efad67e23d… (all of the seat's roots in one cut). By AI agents, Wed Nov 11 2026. No macro, syntax, notation, axiom, sorry.
-/
import Derived.Test.YthhpofehcnjmmaaChecked
import GoSem.Claim
import GoSem.ClaimJoined
import GoSem.ClaimMapViews
import Derived.JoinedTies
import Derived.KernelRfl
namespace Go.Proofs.Ythhpofehcnjmmaa
/- THE CELL 'sum', in the pinned program and in every row, IS THE sha256 OF THE DUMP (.gsa) THAT YthhpofehcnjmmaaProg.lean LOADS. Nothing in Lean hashes anything: it is a label: what it is worth is what the hold of that sum in a sandbox is worth. -/
noncomputable def Try.pinned : Pinned := { name := "ythhpofehcnjmmaa", sum := "fe9cc0efad67e23dd747d26443418f266f2b01b5966406074e0c5b95b443f898", checked := Try.checked }
namespace Rows
def none {H : Type} : Left H := { results := [], args := [] }

/-- 'limewashlaw19.BranchChecks': WHATEVER THE INPUT: true; the input reads as it did. -/
def branchChecksSpec : ChangeSpec := { name := "branchChecks", fn := fun _ => fun
  | [d] => { results := [.lit (.bool true)], args := [d] }
  | _ => none }
def branchChecksRow : OpenClaim := { program := "ythhpofehcnjmmaa", sum := "fe9cc0efad67e23dd747d26443418f266f2b01b5966406074e0c5b95b443f898", func := "limewash/limewashlaw19.BranchChecks", spec := "branchChecks", inPlace := ["internal/abi.NoEscape", "internal/bytealg.MakeNoZero"], unfollowed := true, recurses := true, apart := false }
def BranchChecksSaid : Prop := branchChecksRow.holds Try.pinned (OpenSpec.ofChange branchChecksSpec)

/-- ITS FALSE NEIGHBOUR: 'it returns false'. Refute it at one input. -/
def branchChecksWrong : ChangeSpec := { name := "branchChecks", fn := fun _ => fun
  | [d] => { results := [.lit (.bool false)], args := [d] }
  | _ => none }
def BranchChecksWrongFalsely : Prop := branchChecksRow.holds Try.pinned (OpenSpec.ofChange branchChecksWrong)

/-- 'limewashlaw19.BranchRules': WHATEVER THE INPUT: true; the input reads as it did. -/
def branchRulesSpec : ChangeSpec := { name := "branchRules", fn := fun _ => fun
  | [d1, d2] => { results := [.lit (.bool true)], args := [d1, d2] }
  | _ => none }
def branchRulesRow : OpenClaim := { program := "ythhpofehcnjmmaa", sum := "fe9cc0efad67e23dd747d26443418f266f2b01b5966406074e0c5b95b443f898", func := "limewash/limewashlaw19.BranchRules", spec := "branchRules", inPlace := ["internal/abi.NoEscape", "internal/bytealg.MakeNoZero"], unfollowed := true, recurses := true, apart := false }
def BranchRulesSaid : Prop := branchRulesRow.holds Try.pinned (OpenSpec.ofChange branchRulesSpec)

/-- ITS FALSE NEIGHBOUR: 'it returns false'. Refute it at one input. -/
def branchRulesWrong : ChangeSpec := { name := "branchRules", fn := fun _ => fun
  | [d1, d2] => { results := [.lit (.bool false)], args := [d1, d2] }
  | _ => none }
def BranchRulesWrongFalsely : Prop := branchRulesRow.holds Try.pinned (OpenSpec.ofChange branchRulesWrong)

/-- 'limewashlaw19.BranchKnown': WHATEVER THE INPUT: true; the input reads as it did. -/
def branchKnownSpec : ChangeSpec := { name := "branchKnown", fn := fun _ => fun
  | [] => { results := [.lit (.bool true)], args := [] }
  | _ => none }
def branchKnownRow : OpenClaim := { program := "ythhpofehcnjmmaa", sum := "fe9cc0efad67e23dd747d26443418f266f2b01b5966406074e0c5b95b443f898", func := "limewash/limewashlaw19.BranchKnown", spec := "branchKnown", inPlace := ["internal/abi.NoEscape", "internal/bytealg.MakeNoZero"], unfollowed := true, recurses := true, apart := false }
def BranchKnownSaid : Prop := branchKnownRow.holds Try.pinned (OpenSpec.ofChange branchKnownSpec)

/-- ITS FALSE NEIGHBOUR: 'it returns false'. Refute it at one input. -/
def branchKnownWrong : ChangeSpec := { name := "branchKnown", fn := fun _ => fun
  | [] => { results := [.lit (.bool false)], args := [] }
  | _ => none }
def BranchKnownWrongFalsely : Prop := branchKnownRow.holds Try.pinned (OpenSpec.ofChange branchKnownWrong)

/-- 'limewashlaw19.BranchAsks': WHATEVER THE INPUT: true; the input reads as it did. -/
def branchAsksSpec : ChangeSpec := { name := "branchAsks", fn := fun _ => fun
  | [d1, d2, d3] => { results := [.lit (.bool true)], args := [d1, d2, d3] }
  | _ => none }
def branchAsksRow : OpenClaim := { program := "ythhpofehcnjmmaa", sum := "fe9cc0efad67e23dd747d26443418f266f2b01b5966406074e0c5b95b443f898", func := "limewash/limewashlaw19.BranchAsks", spec := "branchAsks", inPlace := ["internal/abi.NoEscape", "internal/bytealg.MakeNoZero"], unfollowed := true, recurses := true, apart := false }
def BranchAsksSaid : Prop := branchAsksRow.holds Try.pinned (OpenSpec.ofChange branchAsksSpec)

/-- ITS FALSE NEIGHBOUR: 'it returns false'. Refute it at one input. -/
def branchAsksWrong : ChangeSpec := { name := "branchAsks", fn := fun _ => fun
  | [d1, d2, d3] => { results := [.lit (.bool false)], args := [d1, d2, d3] }
  | _ => none }
def BranchAsksWrongFalsely : Prop := branchAsksRow.holds Try.pinned (OpenSpec.ofChange branchAsksWrong)

/-- 'limewashlaw19.BranchPlaces': WHATEVER THE INPUT: true; the input reads as it did. -/
def branchPlacesSpec : ChangeSpec := { name := "branchPlaces", fn := fun _ => fun
  | [d] => { results := [.lit (.bool true)], args := [d] }
  | _ => none }
def branchPlacesRow : OpenClaim := { program := "ythhpofehcnjmmaa", sum := "fe9cc0efad67e23dd747d26443418f266f2b01b5966406074e0c5b95b443f898", func := "limewash/limewashlaw19.BranchPlaces", spec := "branchPlaces", inPlace := ["internal/abi.NoEscape", "internal/bytealg.MakeNoZero"], unfollowed := true, recurses := true, apart := false }
def BranchPlacesSaid : Prop := branchPlacesRow.holds Try.pinned (OpenSpec.ofChange branchPlacesSpec)

/-- ITS FALSE NEIGHBOUR: 'it returns false'. Refute it at one input. -/
def branchPlacesWrong : ChangeSpec := { name := "branchPlaces", fn := fun _ => fun
  | [d] => { results := [.lit (.bool false)], args := [d] }
  | _ => none }
def BranchPlacesWrongFalsely : Prop := branchPlacesRow.holds Try.pinned (OpenSpec.ofChange branchPlacesWrong)

/-- 'limewashlaw19.BranchOneDir': WHATEVER THE INPUT: true; the input reads as it did. -/
def branchOneDirSpec : ChangeSpec := { name := "branchOneDir", fn := fun _ => fun
  | [d1, d2] => { results := [.lit (.bool true)], args := [d1, d2] }
  | _ => none }
def branchOneDirRow : OpenClaim := { program := "ythhpofehcnjmmaa", sum := "fe9cc0efad67e23dd747d26443418f266f2b01b5966406074e0c5b95b443f898", func := "limewash/limewashlaw19.BranchOneDir", spec := "branchOneDir", inPlace := ["internal/abi.NoEscape", "internal/bytealg.MakeNoZero"], unfollowed := true, recurses := true, apart := false }
def BranchOneDirSaid : Prop := branchOneDirRow.holds Try.pinned (OpenSpec.ofChange branchOneDirSpec)

/-- ITS FALSE NEIGHBOUR: 'it returns false'. Refute it at one input. -/
def branchOneDirWrong : ChangeSpec := { name := "branchOneDir", fn := fun _ => fun
  | [d1, d2] => { results := [.lit (.bool false)], args := [d1, d2] }
  | _ => none }
def BranchOneDirWrongFalsely : Prop := branchOneDirRow.holds Try.pinned (OpenSpec.ofChange branchOneDirWrong)

/-- 'limewashlaw19.BranchDirs': WHATEVER THE INPUT: true; the input reads as it did. -/
def branchDirsSpec : ChangeSpec := { name := "branchDirs", fn := fun _ => fun
  | [d1, d2, d3] => { results := [.lit (.bool true)], args := [d1, d2, d3] }
  | _ => none }
def branchDirsRow : OpenClaim := { program := "ythhpofehcnjmmaa", sum := "fe9cc0efad67e23dd747d26443418f266f2b01b5966406074e0c5b95b443f898", func := "limewash/limewashlaw19.BranchDirs", spec := "branchDirs", inPlace := ["internal/abi.NoEscape", "internal/bytealg.MakeNoZero"], unfollowed := true, recurses := true, apart := false }
def BranchDirsSaid : Prop := branchDirsRow.holds Try.pinned (OpenSpec.ofChange branchDirsSpec)

/-- ITS FALSE NEIGHBOUR: 'it returns false'. Refute it at one input. -/
def branchDirsWrong : ChangeSpec := { name := "branchDirs", fn := fun _ => fun
  | [d1, d2, d3] => { results := [.lit (.bool false)], args := [d1, d2, d3] }
  | _ => none }
def BranchDirsWrongFalsely : Prop := branchDirsRow.holds Try.pinned (OpenSpec.ofChange branchDirsWrong)

/-- 'limewashlaw19.BranchMakes': WHATEVER THE INPUT: true; the input reads as it did. -/
def branchMakesSpec : ChangeSpec := { name := "branchMakes", fn := fun _ => fun
  | [d1, d2] => { results := [.lit (.bool true)], args := [d1, d2] }
  | _ => none }
def branchMakesRow : OpenClaim := { program := "ythhpofehcnjmmaa", sum := "fe9cc0efad67e23dd747d26443418f266f2b01b5966406074e0c5b95b443f898", func := "limewash/limewashlaw19.BranchMakes", spec := "branchMakes", inPlace := ["internal/abi.NoEscape", "internal/bytealg.MakeNoZero"], unfollowed := true, recurses := true, apart := false }
def BranchMakesSaid : Prop := branchMakesRow.holds Try.pinned (OpenSpec.ofChange branchMakesSpec)

/-- ITS FALSE NEIGHBOUR: 'it returns false'. Refute it at one input. -/
def branchMakesWrong : ChangeSpec := { name := "branchMakes", fn := fun _ => fun
  | [d1, d2] => { results := [.lit (.bool false)], args := [d1, d2] }
  | _ => none }
def BranchMakesWrongFalsely : Prop := branchMakesRow.holds Try.pinned (OpenSpec.ofChange branchMakesWrong)

/- THE SECOND FORM. 'bulk': how many values and letters a reading holds, each counted each time it is reached (what is shared counts as often as it is met; a slice's spare places count too). A statement '..UptoSaid' is the law's where the arguments, and the package variables that the reading takes, are together of bulk at most 1048576: NARROWER than '..Said'. Prove '..Said' where nothing that the law and all that it calls make is longer than what came in: it says more and counts as full. Else prove '..UptoSaid'. A law counts once. -/
mutual
def uptoBulk {H : Type} : DataW H → Nat
  | .lit (.string bytes) => bytes.length + 1
  | .lit _ => 1
  | .nil => 1
  | .ptr d => uptoBulk d + 1
  | .slice elems spare => uptoBulkAll elems + uptoBulkAll spare + 1
  | .agg parts => uptoBulkAll parts + 1
  | .iface _ d => uptoBulk d + 1
  | .map entries => uptoBulkEntries entries + 1
  | .held _ => 1
def uptoBulkAll {H : Type} : List (DataW H) → Nat
  | [] => 0
  | d :: r => uptoBulk d + uptoBulkAll r
def uptoBulkEntries {H : Type} : List (Lit × DataW H) → Nat
  | [] => 0
  | x :: r => uptoBulkEntry x + uptoBulkEntries r
def uptoBulkEntry {H : Type} : Lit × DataW H → Nat
  | (.string bytes, d) => bytes.length + uptoBulk d + 1
  | (_, d) => uptoBulk d + 1
 end
def uptoSmall : (H : Type) → List (DataW H) → Bool := fun _ ds => decide (uptoBulkAll ds ≤ 1048576)
def OpenSpec.upto (s : _root_.Go.ChangeSpec) : _root_.Go.OpenSpec := { _root_.Go.OpenSpec.ofChange s with cond := some uptoSmall }

/-- 'limewashlaw19.BranchChecks', WHERE WHAT IT READS IS OF BULK AT MOST 1048576: true; the input reads as it did. -/
def branchChecksUptoRow : OpenClaim := { program := "ythhpofehcnjmmaa", sum := "fe9cc0efad67e23dd747d26443418f266f2b01b5966406074e0c5b95b443f898", func := "limewash/limewashlaw19.BranchChecks", spec := "branchChecks", inPlace := ["internal/abi.NoEscape", "internal/bytealg.MakeNoZero"], unfollowed := true, recurses := true, apart := false, narrowed := true }
def BranchChecksUptoSaid : Prop := branchChecksUptoRow.holds Try.pinned (OpenSpec.upto branchChecksSpec)

/-- 'limewashlaw19.BranchRules', WHERE WHAT IT READS IS OF BULK AT MOST 1048576: true; the input reads as it did. -/
def branchRulesUptoRow : OpenClaim := { program := "ythhpofehcnjmmaa", sum := "fe9cc0efad67e23dd747d26443418f266f2b01b5966406074e0c5b95b443f898", func := "limewash/limewashlaw19.BranchRules", spec := "branchRules", inPlace := ["internal/abi.NoEscape", "internal/bytealg.MakeNoZero"], unfollowed := true, recurses := true, apart := false, narrowed := true }
def BranchRulesUptoSaid : Prop := branchRulesUptoRow.holds Try.pinned (OpenSpec.upto branchRulesSpec)

/-- 'limewashlaw19.BranchKnown', WHERE WHAT IT READS IS OF BULK AT MOST 1048576: true; the input reads as it did. -/
def branchKnownUptoRow : OpenClaim := { program := "ythhpofehcnjmmaa", sum := "fe9cc0efad67e23dd747d26443418f266f2b01b5966406074e0c5b95b443f898", func := "limewash/limewashlaw19.BranchKnown", spec := "branchKnown", inPlace := ["internal/abi.NoEscape", "internal/bytealg.MakeNoZero"], unfollowed := true, recurses := true, apart := false, narrowed := true }
def BranchKnownUptoSaid : Prop := branchKnownUptoRow.holds Try.pinned (OpenSpec.upto branchKnownSpec)

/-- 'limewashlaw19.BranchAsks', WHERE WHAT IT READS IS OF BULK AT MOST 1048576: true; the input reads as it did. -/
def branchAsksUptoRow : OpenClaim := { program := "ythhpofehcnjmmaa", sum := "fe9cc0efad67e23dd747d26443418f266f2b01b5966406074e0c5b95b443f898", func := "limewash/limewashlaw19.BranchAsks", spec := "branchAsks", inPlace := ["internal/abi.NoEscape", "internal/bytealg.MakeNoZero"], unfollowed := true, recurses := true, apart := false, narrowed := true }
def BranchAsksUptoSaid : Prop := branchAsksUptoRow.holds Try.pinned (OpenSpec.upto branchAsksSpec)

/-- 'limewashlaw19.BranchPlaces', WHERE WHAT IT READS IS OF BULK AT MOST 1048576: true; the input reads as it did. -/
def branchPlacesUptoRow : OpenClaim := { program := "ythhpofehcnjmmaa", sum := "fe9cc0efad67e23dd747d26443418f266f2b01b5966406074e0c5b95b443f898", func := "limewash/limewashlaw19.BranchPlaces", spec := "branchPlaces", inPlace := ["internal/abi.NoEscape", "internal/bytealg.MakeNoZero"], unfollowed := true, recurses := true, apart := false, narrowed := true }
def BranchPlacesUptoSaid : Prop := branchPlacesUptoRow.holds Try.pinned (OpenSpec.upto branchPlacesSpec)

/-- 'limewashlaw19.BranchOneDir', WHERE WHAT IT READS IS OF BULK AT MOST 1048576: true; the input reads as it did. -/
def branchOneDirUptoRow : OpenClaim := { program := "ythhpofehcnjmmaa", sum := "fe9cc0efad67e23dd747d26443418f266f2b01b5966406074e0c5b95b443f898", func := "limewash/limewashlaw19.BranchOneDir", spec := "branchOneDir", inPlace := ["internal/abi.NoEscape", "internal/bytealg.MakeNoZero"], unfollowed := true, recurses := true, apart := false, narrowed := true }
def BranchOneDirUptoSaid : Prop := branchOneDirUptoRow.holds Try.pinned (OpenSpec.upto branchOneDirSpec)

/-- 'limewashlaw19.BranchDirs', WHERE WHAT IT READS IS OF BULK AT MOST 1048576: true; the input reads as it did. -/
def branchDirsUptoRow : OpenClaim := { program := "ythhpofehcnjmmaa", sum := "fe9cc0efad67e23dd747d26443418f266f2b01b5966406074e0c5b95b443f898", func := "limewash/limewashlaw19.BranchDirs", spec := "branchDirs", inPlace := ["internal/abi.NoEscape", "internal/bytealg.MakeNoZero"], unfollowed := true, recurses := true, apart := false, narrowed := true }
def BranchDirsUptoSaid : Prop := branchDirsUptoRow.holds Try.pinned (OpenSpec.upto branchDirsSpec)

/-- 'limewashlaw19.BranchMakes', WHERE WHAT IT READS IS OF BULK AT MOST 1048576: true; the input reads as it did. -/
def branchMakesUptoRow : OpenClaim := { program := "ythhpofehcnjmmaa", sum := "fe9cc0efad67e23dd747d26443418f266f2b01b5966406074e0c5b95b443f898", func := "limewash/limewashlaw19.BranchMakes", spec := "branchMakes", inPlace := ["internal/abi.NoEscape", "internal/bytealg.MakeNoZero"], unfollowed := true, recurses := true, apart := false, narrowed := true }
def BranchMakesUptoSaid : Prop := branchMakesUptoRow.holds Try.pinned (OpenSpec.upto branchMakesSpec)

end Rows
end Go.Proofs.Ythhpofehcnjmmaa
