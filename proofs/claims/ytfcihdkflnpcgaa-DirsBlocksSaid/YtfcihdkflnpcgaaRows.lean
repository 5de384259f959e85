/-
  No cell of these rows narrows 'for every input' (looked for: loops, veiled, ifaces, maps, wideKeys, modest, calm, conditions, laid).
  DERIVED. THE GIVEN ROWS OF THIS SEAT. 7 by the template 'for every input the law returns true; each argument reads behind the call as it read before'; 0 by the template 'total and deterministic' (their statements: YtfcihdkflnpcgaaTotals.lean).
  GIVEN WITH THE SEED: the statements are not yours to turn. If you find one false, say at which input.
  Laid BY PROGRAM, IN A SANDBOX (cutbox-rows.mjs): the forced cells as the released guide's own fill.sh prints them over the translation 690462f7c6f591c8… (all of the seat's roots in one cut). By AI agents, Wed Nov 11 2026. No macro, syntax, notation, axiom, sorry.
-/
import Derived.Test.YtfcihdkflnpcgaaChecked
import GoSem.Claim
import GoSem.ClaimJoined
import GoSem.ClaimMapViews
import Derived.JoinedTies
import Derived.KernelRfl
namespace Go.Proofs.Ytfcihdkflnpcgaa
/- THE CELL 'sum', in the pinned program and in every row, IS THE sha256 OF THE DUMP (.gsa) THAT YtfcihdkflnpcgaaProg.lean LOADS. Nothing in Lean hashes anything: it is a label: what it is worth is what the hold of that sum in a sandbox is worth. -/
noncomputable def Try.pinned : Pinned := { name := "ytfcihdkflnpcgaa", sum := "690462f7c6f591c81a523c591de51161e5ff1c63986079e1b3a6de88a9366398", checked := Try.checked }
namespace Rows
def none {H : Type} : Left H := { results := [], args := [] }

/-- 'limewashlaw13.DirsFinds': WHATEVER THE INPUT: true; the input reads as it did. -/
def dirsFindsSpec : ChangeSpec := { name := "dirsFinds", fn := fun _ => fun
  | [d1, d2] => { results := [.lit (.bool true)], args := [d1, d2] }
  | _ => none }
def dirsFindsRow : OpenClaim := { program := "ytfcihdkflnpcgaa", sum := "690462f7c6f591c81a523c591de51161e5ff1c63986079e1b3a6de88a9366398", func := "limewash/limewashlaw13.DirsFinds", spec := "dirsFinds", inPlace := ["slices.overlaps[limewash/api.DrEntry]"], unfollowed := true, recurses := true, apart := false }
def DirsFindsSaid : Prop := dirsFindsRow.holds Try.pinned (OpenSpec.ofChange dirsFindsSpec)

/-- ITS FALSE NEIGHBOUR: 'it returns false'. Refute it at one input. -/
def dirsFindsWrong : ChangeSpec := { name := "dirsFinds", fn := fun _ => fun
  | [d1, d2] => { results := [.lit (.bool false)], args := [d1, d2] }
  | _ => none }
def DirsFindsWrongFalsely : Prop := dirsFindsRow.holds Try.pinned (OpenSpec.ofChange dirsFindsWrong)

/-- 'limewashlaw13.DirsChanges': WHATEVER THE INPUT: true; the input reads as it did. -/
def dirsChangesSpec : ChangeSpec := { name := "dirsChanges", fn := fun _ => fun
  | [d1, d2, d3] => { results := [.lit (.bool true)], args := [d1, d2, d3] }
  | _ => none }
def dirsChangesRow : OpenClaim := { program := "ytfcihdkflnpcgaa", sum := "690462f7c6f591c81a523c591de51161e5ff1c63986079e1b3a6de88a9366398", func := "limewash/limewashlaw13.DirsChanges", spec := "dirsChanges", inPlace := ["slices.overlaps[limewash/api.DrEntry]"], unfollowed := true, recurses := true, apart := false }
def DirsChangesSaid : Prop := dirsChangesRow.holds Try.pinned (OpenSpec.ofChange dirsChangesSpec)

/-- ITS FALSE NEIGHBOUR: 'it returns false'. Refute it at one input. -/
def dirsChangesWrong : ChangeSpec := { name := "dirsChanges", fn := fun _ => fun
  | [d1, d2, d3] => { results := [.lit (.bool false)], args := [d1, d2, d3] }
  | _ => none }
def DirsChangesWrongFalsely : Prop := dirsChangesRow.holds Try.pinned (OpenSpec.ofChange dirsChangesWrong)

/-- 'limewashlaw13.DirsMap': WHATEVER THE INPUT: true; the input reads as it did. -/
def dirsMapSpec : ChangeSpec := { name := "dirsMap", fn := fun _ => fun
  | [d1, d2, d3] => { results := [.lit (.bool true)], args := [d1, d2, d3] }
  | _ => none }
def dirsMapRow : OpenClaim := { program := "ytfcihdkflnpcgaa", sum := "690462f7c6f591c81a523c591de51161e5ff1c63986079e1b3a6de88a9366398", func := "limewash/limewashlaw13.DirsMap", spec := "dirsMap", inPlace := ["slices.overlaps[limewash/api.DrEntry]"], unfollowed := true, recurses := true, apart := false }
def DirsMapSaid : Prop := dirsMapRow.holds Try.pinned (OpenSpec.ofChange dirsMapSpec)

/-- ITS FALSE NEIGHBOUR: 'it returns false'. Refute it at one input. -/
def dirsMapWrong : ChangeSpec := { name := "dirsMap", fn := fun _ => fun
  | [d1, d2, d3] => { results := [.lit (.bool false)], args := [d1, d2, d3] }
  | _ => none }
def DirsMapWrongFalsely : Prop := dirsMapRow.holds Try.pinned (OpenSpec.ofChange dirsMapWrong)

/-- 'limewashlaw13.DirsOrder': WHATEVER THE INPUT: true; the input reads as it did. -/
def dirsOrderSpec : ChangeSpec := { name := "dirsOrder", fn := fun _ => fun
  | [d1, d2] => { results := [.lit (.bool true)], args := [d1, d2] }
  | _ => none }
def dirsOrderRow : OpenClaim := { program := "ytfcihdkflnpcgaa", sum := "690462f7c6f591c81a523c591de51161e5ff1c63986079e1b3a6de88a9366398", func := "limewash/limewashlaw13.DirsOrder", spec := "dirsOrder", inPlace := ["slices.overlaps[limewash/api.DrEntry]"], unfollowed := true, recurses := true, apart := false }
def DirsOrderSaid : Prop := dirsOrderRow.holds Try.pinned (OpenSpec.ofChange dirsOrderSpec)

/-- ITS FALSE NEIGHBOUR: 'it returns false'. Refute it at one input. -/
def dirsOrderWrong : ChangeSpec := { name := "dirsOrder", fn := fun _ => fun
  | [d1, d2] => { results := [.lit (.bool false)], args := [d1, d2] }
  | _ => none }
def DirsOrderWrongFalsely : Prop := dirsOrderRow.holds Try.pinned (OpenSpec.ofChange dirsOrderWrong)

/-- 'limewashlaw13.DirsPacks': WHATEVER THE INPUT: true; the input reads as it did. -/
def dirsPacksSpec : ChangeSpec := { name := "dirsPacks", fn := fun _ => fun
  | [d1, d2, d3] => { results := [.lit (.bool true)], args := [d1, d2, d3] }
  | _ => none }
def dirsPacksRow : OpenClaim := { program := "ytfcihdkflnpcgaa", sum := "690462f7c6f591c81a523c591de51161e5ff1c63986079e1b3a6de88a9366398", func := "limewash/limewashlaw13.DirsPacks", spec := "dirsPacks", inPlace := ["slices.overlaps[limewash/api.DrEntry]"], unfollowed := true, recurses := true, apart := false }
def DirsPacksSaid : Prop := dirsPacksRow.holds Try.pinned (OpenSpec.ofChange dirsPacksSpec)

/-- ITS FALSE NEIGHBOUR: 'it returns false'. Refute it at one input. -/
def dirsPacksWrong : ChangeSpec := { name := "dirsPacks", fn := fun _ => fun
  | [d1, d2, d3] => { results := [.lit (.bool false)], args := [d1, d2, d3] }
  | _ => none }
def DirsPacksWrongFalsely : Prop := dirsPacksRow.holds Try.pinned (OpenSpec.ofChange dirsPacksWrong)

/-- 'limewashlaw13.DirsBlocks': WHATEVER THE INPUT: true; the input reads as it did. -/
def dirsBlocksSpec : ChangeSpec := { name := "dirsBlocks", fn := fun _ => fun
  | [d1, d2] => { results := [.lit (.bool true)], args := [d1, d2] }
  | _ => none }
def dirsBlocksRow : OpenClaim := { program := "ytfcihdkflnpcgaa", sum := "690462f7c6f591c81a523c591de51161e5ff1c63986079e1b3a6de88a9366398", func := "limewash/limewashlaw13.DirsBlocks", spec := "dirsBlocks", inPlace := ["slices.overlaps[limewash/api.DrEntry]"], unfollowed := true, recurses := true, apart := false }
def DirsBlocksSaid : Prop := dirsBlocksRow.holds Try.pinned (OpenSpec.ofChange dirsBlocksSpec)

/-- ITS FALSE NEIGHBOUR: 'it returns false'. Refute it at one input. -/
def dirsBlocksWrong : ChangeSpec := { name := "dirsBlocks", fn := fun _ => fun
  | [d1, d2] => { results := [.lit (.bool false)], args := [d1, d2] }
  | _ => none }
def DirsBlocksWrongFalsely : Prop := dirsBlocksRow.holds Try.pinned (OpenSpec.ofChange dirsBlocksWrong)

/-- 'limewashlaw13.DirsRound': WHATEVER THE INPUT: true; the input reads as it did. -/
def dirsRoundSpec : ChangeSpec := { name := "dirsRound", fn := fun _ => fun
  | [d1, d2] => { results := [.lit (.bool true)], args := [d1, d2] }
  | _ => none }
def dirsRoundRow : OpenClaim := { program := "ytfcihdkflnpcgaa", sum := "690462f7c6f591c81a523c591de51161e5ff1c63986079e1b3a6de88a9366398", func := "limewash/limewashlaw13.DirsRound", spec := "dirsRound", inPlace := ["slices.overlaps[limewash/api.DrEntry]"], unfollowed := true, recurses := true, apart := false }
def DirsRoundSaid : Prop := dirsRoundRow.holds Try.pinned (OpenSpec.ofChange dirsRoundSpec)

/-- ITS FALSE NEIGHBOUR: 'it returns false'. Refute it at one input. -/
def dirsRoundWrong : ChangeSpec := { name := "dirsRound", fn := fun _ => fun
  | [d1, d2] => { results := [.lit (.bool false)], args := [d1, d2] }
  | _ => none }
def DirsRoundWrongFalsely : Prop := dirsRoundRow.holds Try.pinned (OpenSpec.ofChange dirsRoundWrong)

/- THE SECOND FORM. 'bulk': how many values and letters a reading holds, each counted each time it is reached (what is shared counts as often as it is met; a slice's spare places count too). A statement '..UptoSaid' is the law's where the arguments, and the package variables that the reading takes, are together of bulk at most 1048576: NARROWER than '..Said'. Prove '..Said' where nothing that the law and all that it calls make is longer than what came in: it says more and counts as full. Else prove '..UptoSaid'. A law counts once. -/
mutual
def uptoBulk {H : Type} : DataW H → Nat
  | .lit (.string bytes) => bytes.length + 1
  | .lit _ => 1
  | .nil => 1
  | .ptr d => uptoBulk d + 1
  | .slice elems spare => uptoBulkAll elems + uptoBulkAll spare + 1
  | .agg parts => uptoBulkAll parts + 1
  | .iface _ d => uptoBulk d + 1
  | .map entries => uptoBulkEntries entries + 1
  | .held _ => 1
def uptoBulkAll {H : Type} : List (DataW H) → Nat
  | [] => 0
  | d :: r => uptoBulk d + uptoBulkAll r
def uptoBulkEntries {H : Type} : List (Lit × DataW H) → Nat
  | [] => 0
  | x :: r => uptoBulkEntry x + uptoBulkEntries r
def uptoBulkEntry {H : Type} : Lit × DataW H → Nat
  | (.string bytes, d) => bytes.length + uptoBulk d + 1
  | (_, d) => uptoBulk d + 1
 end
def uptoSmall : (H : Type) → List (DataW H) → Bool := fun _ ds => decide (uptoBulkAll ds ≤ 1048576)
def OpenSpec.upto (s : _root_.Go.ChangeSpec) : _root_.Go.OpenSpec := { _root_.Go.OpenSpec.ofChange s with cond := some uptoSmall }

/-- 'limewashlaw13.DirsFinds', WHERE WHAT IT READS IS OF BULK AT MOST 1048576: true; the input reads as it did. -/
def dirsFindsUptoRow : OpenClaim := { program := "ytfcihdkflnpcgaa", sum := "690462f7c6f591c81a523c591de51161e5ff1c63986079e1b3a6de88a9366398", func := "limewash/limewashlaw13.DirsFinds", spec := "dirsFinds", inPlace := ["slices.overlaps[limewash/api.DrEntry]"], unfollowed := true, recurses := true, apart := false, narrowed := true }
def DirsFindsUptoSaid : Prop := dirsFindsUptoRow.holds Try.pinned (OpenSpec.upto dirsFindsSpec)

/-- 'limewashlaw13.DirsChanges', WHERE WHAT IT READS IS OF BULK AT MOST 1048576: true; the input reads as it did. -/
def dirsChangesUptoRow : OpenClaim := { program := "ytfcihdkflnpcgaa", sum := "690462f7c6f591c81a523c591de51161e5ff1c63986079e1b3a6de88a9366398", func := "limewash/limewashlaw13.DirsChanges", spec := "dirsChanges", inPlace := ["slices.overlaps[limewash/api.DrEntry]"], unfollowed := true, recurses := true, apart := false, narrowed := true }
def DirsChangesUptoSaid : Prop := dirsChangesUptoRow.holds Try.pinned (OpenSpec.upto dirsChangesSpec)

/-- 'limewashlaw13.DirsMap', WHERE WHAT IT READS IS OF BULK AT MOST 1048576: true; the input reads as it did. -/
def dirsMapUptoRow : OpenClaim := { program := "ytfcihdkflnpcgaa", sum := "690462f7c6f591c81a523c591de51161e5ff1c63986079e1b3a6de88a9366398", func := "limewash/limewashlaw13.DirsMap", spec := "dirsMap", inPlace := ["slices.overlaps[limewash/api.DrEntry]"], unfollowed := true, recurses := true, apart := false, narrowed := true }
def DirsMapUptoSaid : Prop := dirsMapUptoRow.holds Try.pinned (OpenSpec.upto dirsMapSpec)

/-- 'limewashlaw13.DirsOrder', WHERE WHAT IT READS IS OF BULK AT MOST 1048576: true; the input reads as it did. -/
def dirsOrderUptoRow : OpenClaim := { program := "ytfcihdkflnpcgaa", sum := "690462f7c6f591c81a523c591de51161e5ff1c63986079e1b3a6de88a9366398", func := "limewash/limewashlaw13.DirsOrder", spec := "dirsOrder", inPlace := ["slices.overlaps[limewash/api.DrEntry]"], unfollowed := true, recurses := true, apart := false, narrowed := true }
def DirsOrderUptoSaid : Prop := dirsOrderUptoRow.holds Try.pinned (OpenSpec.upto dirsOrderSpec)

/-- 'limewashlaw13.DirsPacks', WHERE WHAT IT READS IS OF BULK AT MOST 1048576: true; the input reads as it did. -/
def dirsPacksUptoRow : OpenClaim := { program := "ytfcihdkflnpcgaa", sum := "690462f7c6f591c81a523c591de51161e5ff1c63986079e1b3a6de88a9366398", func := "limewash/limewashlaw13.DirsPacks", spec := "dirsPacks", inPlace := ["slices.overlaps[limewash/api.DrEntry]"], unfollowed := true, recurses := true, apart := false, narrowed := true }
def DirsPacksUptoSaid : Prop := dirsPacksUptoRow.holds Try.pinned (OpenSpec.upto dirsPacksSpec)

/-- 'limewashlaw13.DirsBlocks', WHERE WHAT IT READS IS OF BULK AT MOST 1048576: true; the input reads as it did. -/
def dirsBlocksUptoRow : OpenClaim := { program := "ytfcihdkflnpcgaa", sum := "690462f7c6f591c81a523c591de51161e5ff1c63986079e1b3a6de88a9366398", func := "limewash/limewashlaw13.DirsBlocks", spec := "dirsBlocks", inPlace := ["slices.overlaps[limewash/api.DrEntry]"], unfollowed := true, recurses := true, apart := false, narrowed := true }
def DirsBlocksUptoSaid : Prop := dirsBlocksUptoRow.holds Try.pinned (OpenSpec.upto dirsBlocksSpec)

/-- 'limewashlaw13.DirsRound', WHERE WHAT IT READS IS OF BULK AT MOST 1048576: true; the input reads as it did. -/
def dirsRoundUptoRow : OpenClaim := { program := "ytfcihdkflnpcgaa", sum := "690462f7c6f591c81a523c591de51161e5ff1c63986079e1b3a6de88a9366398", func := "limewash/limewashlaw13.DirsRound", spec := "dirsRound", inPlace := ["slices.overlaps[limewash/api.DrEntry]"], unfollowed := true, recurses := true, apart := false, narrowed := true }
def DirsRoundUptoSaid : Prop := dirsRoundUptoRow.holds Try.pinned (OpenSpec.upto dirsRoundSpec)

end Rows
end Go.Proofs.Ytfcihdkflnpcgaa
