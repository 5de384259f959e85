/-
  No cell of these rows narrows 'for every input' (looked for: loops, veiled, ifaces, maps, wideKeys, modest, calm, conditions, laid).
  DERIVED. THE GIVEN ROWS OF THIS SEAT. 8 by the template 'for every input the law returns true; each argument reads behind the call as it read before'; 0 by the template 'total and deterministic' (their statements: YtncnmjepifbclaaTotals.lean).
  GIVEN WITH THE SEED: the statements are not yours to turn. If you find one false, say at which input.
  Laid BY PROGRAM, IN A SANDBOX (cutbox-rows.mjs): the forced cells as the released guide's own fill.sh prints them over the translation b3e8d6695934c953… (all of the seat's roots in one cut). By AI agents, Wed Nov 11 2026. No macro, syntax, notation, axiom, sorry.
-/
import Derived.Test.YtncnmjepifbclaaChecked
import GoSem.Claim
import GoSem.ClaimJoined
import GoSem.ClaimMapViews
import Derived.JoinedTies
import Derived.KernelRfl
namespace Go.Proofs.Ytncnmjepifbclaa
/- THE CELL 'sum', in the pinned program and in every row, IS THE sha256 OF THE DUMP (.gsa) THAT YtncnmjepifbclaaProg.lean LOADS. Nothing in Lean hashes anything: it is a label: what it is worth is what the hold of that sum in a sandbox is worth. -/
noncomputable def Try.pinned : Pinned := { name := "ytncnmjepifbclaa", sum := "b3e8d6695934c9531ab48b1b19033e8c5d8c119a84ca562628aaa4567a80744c", checked := Try.checked }
namespace Rows
def none {H : Type} : Left H := { results := [], args := [] }

/-- 'limewashlaw14.AttrsChecks': WHATEVER THE INPUT: true; the input reads as it did. -/
def attrsChecksSpec : ChangeSpec := { name := "attrsChecks", fn := fun _ => fun
  | [d1, d2] => { results := [.lit (.bool true)], args := [d1, d2] }
  | _ => none }
def attrsChecksRow : OpenClaim := { program := "ytncnmjepifbclaa", sum := "b3e8d6695934c9531ab48b1b19033e8c5d8c119a84ca562628aaa4567a80744c", func := "limewash/limewashlaw14.AttrsChecks", spec := "attrsChecks", inPlace := ["slices.overlaps[limewash/api.TrAttr]"], unfollowed := true, recurses := true, apart := false }
def AttrsChecksSaid : Prop := attrsChecksRow.holds Try.pinned (OpenSpec.ofChange attrsChecksSpec)

/-- ITS FALSE NEIGHBOUR: 'it returns false'. Refute it at one input. -/
def attrsChecksWrong : ChangeSpec := { name := "attrsChecks", fn := fun _ => fun
  | [d1, d2] => { results := [.lit (.bool false)], args := [d1, d2] }
  | _ => none }
def AttrsChecksWrongFalsely : Prop := attrsChecksRow.holds Try.pinned (OpenSpec.ofChange attrsChecksWrong)

/-- 'limewashlaw14.AttrsChanges': WHATEVER THE INPUT: true; the input reads as it did. -/
def attrsChangesSpec : ChangeSpec := { name := "attrsChanges", fn := fun _ => fun
  | [d1, d2] => { results := [.lit (.bool true)], args := [d1, d2] }
  | _ => none }
def attrsChangesRow : OpenClaim := { program := "ytncnmjepifbclaa", sum := "b3e8d6695934c9531ab48b1b19033e8c5d8c119a84ca562628aaa4567a80744c", func := "limewash/limewashlaw14.AttrsChanges", spec := "attrsChanges", inPlace := ["slices.overlaps[limewash/api.TrAttr]"], unfollowed := true, recurses := true, apart := false }
def AttrsChangesSaid : Prop := attrsChangesRow.holds Try.pinned (OpenSpec.ofChange attrsChangesSpec)

/-- ITS FALSE NEIGHBOUR: 'it returns false'. Refute it at one input. -/
def attrsChangesWrong : ChangeSpec := { name := "attrsChanges", fn := fun _ => fun
  | [d1, d2] => { results := [.lit (.bool false)], args := [d1, d2] }
  | _ => none }
def AttrsChangesWrongFalsely : Prop := attrsChangesRow.holds Try.pinned (OpenSpec.ofChange attrsChangesWrong)

/-- 'limewashlaw14.AttrsMap': WHATEVER THE INPUT: true; the input reads as it did. -/
def attrsMapSpec : ChangeSpec := { name := "attrsMap", fn := fun _ => fun
  | [d1, d2, d3] => { results := [.lit (.bool true)], args := [d1, d2, d3] }
  | _ => none }
def attrsMapRow : OpenClaim := { program := "ytncnmjepifbclaa", sum := "b3e8d6695934c9531ab48b1b19033e8c5d8c119a84ca562628aaa4567a80744c", func := "limewash/limewashlaw14.AttrsMap", spec := "attrsMap", inPlace := ["slices.overlaps[limewash/api.TrAttr]"], unfollowed := true, recurses := true, apart := false }
def AttrsMapSaid : Prop := attrsMapRow.holds Try.pinned (OpenSpec.ofChange attrsMapSpec)

/-- ITS FALSE NEIGHBOUR: 'it returns false'. Refute it at one input. -/
def attrsMapWrong : ChangeSpec := { name := "attrsMap", fn := fun _ => fun
  | [d1, d2, d3] => { results := [.lit (.bool false)], args := [d1, d2, d3] }
  | _ => none }
def AttrsMapWrongFalsely : Prop := attrsMapRow.holds Try.pinned (OpenSpec.ofChange attrsMapWrong)

/-- 'limewashlaw14.AttrsSpare': WHATEVER THE INPUT: true; the input reads as it did. -/
def attrsSpareSpec : ChangeSpec := { name := "attrsSpare", fn := fun _ => fun
  | [d1, d2, d3] => { results := [.lit (.bool true)], args := [d1, d2, d3] }
  | _ => none }
def attrsSpareRow : OpenClaim := { program := "ytncnmjepifbclaa", sum := "b3e8d6695934c9531ab48b1b19033e8c5d8c119a84ca562628aaa4567a80744c", func := "limewash/limewashlaw14.AttrsSpare", spec := "attrsSpare", inPlace := ["slices.overlaps[limewash/api.TrAttr]"], unfollowed := true, recurses := true, apart := false }
def AttrsSpareSaid : Prop := attrsSpareRow.holds Try.pinned (OpenSpec.ofChange attrsSpareSpec)

/-- ITS FALSE NEIGHBOUR: 'it returns false'. Refute it at one input. -/
def attrsSpareWrong : ChangeSpec := { name := "attrsSpare", fn := fun _ => fun
  | [d1, d2, d3] => { results := [.lit (.bool false)], args := [d1, d2, d3] }
  | _ => none }
def AttrsSpareWrongFalsely : Prop := attrsSpareRow.holds Try.pinned (OpenSpec.ofChange attrsSpareWrong)

/-- 'limewashlaw14.AttrsOrder': WHATEVER THE INPUT: true; the input reads as it did. -/
def attrsOrderSpec : ChangeSpec := { name := "attrsOrder", fn := fun _ => fun
  | [d1, d2, d3] => { results := [.lit (.bool true)], args := [d1, d2, d3] }
  | _ => none }
def attrsOrderRow : OpenClaim := { program := "ytncnmjepifbclaa", sum := "b3e8d6695934c9531ab48b1b19033e8c5d8c119a84ca562628aaa4567a80744c", func := "limewash/limewashlaw14.AttrsOrder", spec := "attrsOrder", inPlace := ["slices.overlaps[limewash/api.TrAttr]"], unfollowed := true, recurses := true, apart := false }
def AttrsOrderSaid : Prop := attrsOrderRow.holds Try.pinned (OpenSpec.ofChange attrsOrderSpec)

/-- ITS FALSE NEIGHBOUR: 'it returns false'. Refute it at one input. -/
def attrsOrderWrong : ChangeSpec := { name := "attrsOrder", fn := fun _ => fun
  | [d1, d2, d3] => { results := [.lit (.bool false)], args := [d1, d2, d3] }
  | _ => none }
def AttrsOrderWrongFalsely : Prop := attrsOrderRow.holds Try.pinned (OpenSpec.ofChange attrsOrderWrong)

/-- 'limewashlaw14.AttrsMerges': WHATEVER THE INPUT: true; the input reads as it did. -/
def attrsMergesSpec : ChangeSpec := { name := "attrsMerges", fn := fun _ => fun
  | [d1, d2, d3] => { results := [.lit (.bool true)], args := [d1, d2, d3] }
  | _ => none }
def attrsMergesRow : OpenClaim := { program := "ytncnmjepifbclaa", sum := "b3e8d6695934c9531ab48b1b19033e8c5d8c119a84ca562628aaa4567a80744c", func := "limewash/limewashlaw14.AttrsMerges", spec := "attrsMerges", inPlace := ["slices.overlaps[limewash/api.TrAttr]"], unfollowed := true, recurses := true, apart := false }
def AttrsMergesSaid : Prop := attrsMergesRow.holds Try.pinned (OpenSpec.ofChange attrsMergesSpec)

/-- ITS FALSE NEIGHBOUR: 'it returns false'. Refute it at one input. -/
def attrsMergesWrong : ChangeSpec := { name := "attrsMerges", fn := fun _ => fun
  | [d1, d2, d3] => { results := [.lit (.bool false)], args := [d1, d2, d3] }
  | _ => none }
def AttrsMergesWrongFalsely : Prop := attrsMergesRow.holds Try.pinned (OpenSpec.ofChange attrsMergesWrong)

/-- 'limewashlaw14.AttrsPacks': WHATEVER THE INPUT: true; the input reads as it did. -/
def attrsPacksSpec : ChangeSpec := { name := "attrsPacks", fn := fun _ => fun
  | [d1, d2] => { results := [.lit (.bool true)], args := [d1, d2] }
  | _ => none }
def attrsPacksRow : OpenClaim := { program := "ytncnmjepifbclaa", sum := "b3e8d6695934c9531ab48b1b19033e8c5d8c119a84ca562628aaa4567a80744c", func := "limewash/limewashlaw14.AttrsPacks", spec := "attrsPacks", inPlace := ["slices.overlaps[limewash/api.TrAttr]"], unfollowed := true, recurses := true, apart := false }
def AttrsPacksSaid : Prop := attrsPacksRow.holds Try.pinned (OpenSpec.ofChange attrsPacksSpec)

/-- ITS FALSE NEIGHBOUR: 'it returns false'. Refute it at one input. -/
def attrsPacksWrong : ChangeSpec := { name := "attrsPacks", fn := fun _ => fun
  | [d1, d2] => { results := [.lit (.bool false)], args := [d1, d2] }
  | _ => none }
def AttrsPacksWrongFalsely : Prop := attrsPacksRow.holds Try.pinned (OpenSpec.ofChange attrsPacksWrong)

/-- 'limewashlaw14.AttrsRound': WHATEVER THE INPUT: true; the input reads as it did. -/
def attrsRoundSpec : ChangeSpec := { name := "attrsRound", fn := fun _ => fun
  | [d1, d2] => { results := [.lit (.bool true)], args := [d1, d2] }
  | _ => none }
def attrsRoundRow : OpenClaim := { program := "ytncnmjepifbclaa", sum := "b3e8d6695934c9531ab48b1b19033e8c5d8c119a84ca562628aaa4567a80744c", func := "limewash/limewashlaw14.AttrsRound", spec := "attrsRound", inPlace := ["slices.overlaps[limewash/api.TrAttr]"], unfollowed := true, recurses := true, apart := false }
def AttrsRoundSaid : Prop := attrsRoundRow.holds Try.pinned (OpenSpec.ofChange attrsRoundSpec)

/-- ITS FALSE NEIGHBOUR: 'it returns false'. Refute it at one input. -/
def attrsRoundWrong : ChangeSpec := { name := "attrsRound", fn := fun _ => fun
  | [d1, d2] => { results := [.lit (.bool false)], args := [d1, d2] }
  | _ => none }
def AttrsRoundWrongFalsely : Prop := attrsRoundRow.holds Try.pinned (OpenSpec.ofChange attrsRoundWrong)

/- THE SECOND FORM. 'bulk': how many values and letters a reading holds, each counted each time it is reached (what is shared counts as often as it is met; a slice's spare places count too). A statement '..UptoSaid' is the law's where the arguments, and the package variables that the reading takes, are together of bulk at most 1048576: NARROWER than '..Said'. Prove '..Said' where nothing that the law and all that it calls make is longer than what came in: it says more and counts as full. Else prove '..UptoSaid'. A law counts once. -/
mutual
def uptoBulk {H : Type} : DataW H → Nat
  | .lit (.string bytes) => bytes.length + 1
  | .lit _ => 1
  | .nil => 1
  | .ptr d => uptoBulk d + 1
  | .slice elems spare => uptoBulkAll elems + uptoBulkAll spare + 1
  | .agg parts => uptoBulkAll parts + 1
  | .iface _ d => uptoBulk d + 1
  | .map entries => uptoBulkEntries entries + 1
  | .held _ => 1
def uptoBulkAll {H : Type} : List (DataW H) → Nat
  | [] => 0
  | d :: r => uptoBulk d + uptoBulkAll r
def uptoBulkEntries {H : Type} : List (Lit × DataW H) → Nat
  | [] => 0
  | x :: r => uptoBulkEntry x + uptoBulkEntries r
def uptoBulkEntry {H : Type} : Lit × DataW H → Nat
  | (.string bytes, d) => bytes.length + uptoBulk d + 1
  | (_, d) => uptoBulk d + 1
 end
def uptoSmall : (H : Type) → List (DataW H) → Bool := fun _ ds => decide (uptoBulkAll ds ≤ 1048576)
def OpenSpec.upto (s : _root_.Go.ChangeSpec) : _root_.Go.OpenSpec := { _root_.Go.OpenSpec.ofChange s with cond := some uptoSmall }

/-- 'limewashlaw14.AttrsChecks', WHERE WHAT IT READS IS OF BULK AT MOST 1048576: true; the input reads as it did. -/
def attrsChecksUptoRow : OpenClaim := { program := "ytncnmjepifbclaa", sum := "b3e8d6695934c9531ab48b1b19033e8c5d8c119a84ca562628aaa4567a80744c", func := "limewash/limewashlaw14.AttrsChecks", spec := "attrsChecks", inPlace := ["slices.overlaps[limewash/api.TrAttr]"], unfollowed := true, recurses := true, apart := false, narrowed := true }
def AttrsChecksUptoSaid : Prop := attrsChecksUptoRow.holds Try.pinned (OpenSpec.upto attrsChecksSpec)

/-- 'limewashlaw14.AttrsChanges', WHERE WHAT IT READS IS OF BULK AT MOST 1048576: true; the input reads as it did. -/
def attrsChangesUptoRow : OpenClaim := { program := "ytncnmjepifbclaa", sum := "b3e8d6695934c9531ab48b1b19033e8c5d8c119a84ca562628aaa4567a80744c", func := "limewash/limewashlaw14.AttrsChanges", spec := "attrsChanges", inPlace := ["slices.overlaps[limewash/api.TrAttr]"], unfollowed := true, recurses := true, apart := false, narrowed := true }
def AttrsChangesUptoSaid : Prop := attrsChangesUptoRow.holds Try.pinned (OpenSpec.upto attrsChangesSpec)

/-- 'limewashlaw14.AttrsMap', WHERE WHAT IT READS IS OF BULK AT MOST 1048576: true; the input reads as it did. -/
def attrsMapUptoRow : OpenClaim := { program := "ytncnmjepifbclaa", sum := "b3e8d6695934c9531ab48b1b19033e8c5d8c119a84ca562628aaa4567a80744c", func := "limewash/limewashlaw14.AttrsMap", spec := "attrsMap", inPlace := ["slices.overlaps[limewash/api.TrAttr]"], unfollowed := true, recurses := true, apart := false, narrowed := true }
def AttrsMapUptoSaid : Prop := attrsMapUptoRow.holds Try.pinned (OpenSpec.upto attrsMapSpec)

/-- 'limewashlaw14.AttrsSpare', WHERE WHAT IT READS IS OF BULK AT MOST 1048576: true; the input reads as it did. -/
def attrsSpareUptoRow : OpenClaim := { program := "ytncnmjepifbclaa", sum := "b3e8d6695934c9531ab48b1b19033e8c5d8c119a84ca562628aaa4567a80744c", func := "limewash/limewashlaw14.AttrsSpare", spec := "attrsSpare", inPlace := ["slices.overlaps[limewash/api.TrAttr]"], unfollowed := true, recurses := true, apart := false, narrowed := true }
def AttrsSpareUptoSaid : Prop := attrsSpareUptoRow.holds Try.pinned (OpenSpec.upto attrsSpareSpec)

/-- 'limewashlaw14.AttrsOrder', WHERE WHAT IT READS IS OF BULK AT MOST 1048576: true; the input reads as it did. -/
def attrsOrderUptoRow : OpenClaim := { program := "ytncnmjepifbclaa", sum := "b3e8d6695934c9531ab48b1b19033e8c5d8c119a84ca562628aaa4567a80744c", func := "limewash/limewashlaw14.AttrsOrder", spec := "attrsOrder", inPlace := ["slices.overlaps[limewash/api.TrAttr]"], unfollowed := true, recurses := true, apart := false, narrowed := true }
def AttrsOrderUptoSaid : Prop := attrsOrderUptoRow.holds Try.pinned (OpenSpec.upto attrsOrderSpec)

/-- 'limewashlaw14.AttrsMerges', WHERE WHAT IT READS IS OF BULK AT MOST 1048576: true; the input reads as it did. -/
def attrsMergesUptoRow : OpenClaim := { program := "ytncnmjepifbclaa", sum := "b3e8d6695934c9531ab48b1b19033e8c5d8c119a84ca562628aaa4567a80744c", func := "limewash/limewashlaw14.AttrsMerges", spec := "attrsMerges", inPlace := ["slices.overlaps[limewash/api.TrAttr]"], unfollowed := true, recurses := true, apart := false, narrowed := true }
def AttrsMergesUptoSaid : Prop := attrsMergesUptoRow.holds Try.pinned (OpenSpec.upto attrsMergesSpec)

/-- 'limewashlaw14.AttrsPacks', WHERE WHAT IT READS IS OF BULK AT MOST 1048576: true; the input reads as it did. -/
def attrsPacksUptoRow : OpenClaim := { program := "ytncnmjepifbclaa", sum := "b3e8d6695934c9531ab48b1b19033e8c5d8c119a84ca562628aaa4567a80744c", func := "limewash/limewashlaw14.AttrsPacks", spec := "attrsPacks", inPlace := ["slices.overlaps[limewash/api.TrAttr]"], unfollowed := true, recurses := true, apart := false, narrowed := true }
def AttrsPacksUptoSaid : Prop := attrsPacksUptoRow.holds Try.pinned (OpenSpec.upto attrsPacksSpec)

/-- 'limewashlaw14.AttrsRound', WHERE WHAT IT READS IS OF BULK AT MOST 1048576: true; the input reads as it did. -/
def attrsRoundUptoRow : OpenClaim := { program := "ytncnmjepifbclaa", sum := "b3e8d6695934c9531ab48b1b19033e8c5d8c119a84ca562628aaa4567a80744c", func := "limewash/limewashlaw14.AttrsRound", spec := "attrsRound", inPlace := ["slices.overlaps[limewash/api.TrAttr]"], unfollowed := true, recurses := true, apart := false, narrowed := true }
def AttrsRoundUptoSaid : Prop := attrsRoundUptoRow.holds Try.pinned (OpenSpec.upto attrsRoundSpec)

end Rows
end Go.Proofs.Ytncnmjepifbclaa
