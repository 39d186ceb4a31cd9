/-
  No cell of these rows narrows 'for every input' (looked for: loops, veiled, ifaces, maps, wideKeys, modest, calm, conditions, laid).
  DERIVED. THE GIVEN ROWS OF THIS SEAT. 12 by the template 'for every input the law returns true; each argument reads behind the call as it read before'; 0 by the template 'total and deterministic' (their statements: YtfdckjliinpjiaaTotals.lean).
  GIVEN WITH THE SEED: the statements are not yours to turn. If you find one false, say at which input.
  Laid BY PROGRAM, IN A SANDBOX (cutbox-rows.mjs): the forced cells as the released guide's own fill.sh prints them over the translation be0456e63a6117d7… (all of the seat's roots in one cut). By AI agents, Wed Nov 11 2026. No macro, syntax, notation, axiom, sorry.
-/
import Derived.Test.YtfdckjliinpjiaaChecked
import GoSem.Claim
import GoSem.ClaimJoined
import GoSem.ClaimMapViews
import Derived.JoinedTies
import Derived.KernelRfl
namespace Go.Proofs.Ytfdckjliinpjiaa
/- THE CELL 'sum', in the pinned program and in every row, IS THE sha256 OF THE DUMP (.gsa) THAT YtfdckjliinpjiaaProg.lean LOADS. Nothing in Lean hashes anything: it is a label: what it is worth is what the hold of that sum in a sandbox is worth. -/
noncomputable def Try.pinned : Pinned := { name := "ytfdckjliinpjiaa", sum := "be0456e63a6117d790ce295fa2fd8911cdbe7bf8838dc3fce83c28fb5a08fe91", checked := Try.checked }
namespace Rows
def none {H : Type} : Left H := { results := [], args := [] }

/-- 'mortmainlaw24.ParcelPuts': WHATEVER THE INPUT: true; the input reads as it did. -/
def parcelPutsSpec : ChangeSpec := { name := "parcelPuts", fn := fun _ => fun
  | [d1, d2] => { results := [.lit (.bool true)], args := [d1, d2] }
  | _ => none }
def parcelPutsRow : OpenClaim := { program := "ytfdckjliinpjiaa", sum := "be0456e63a6117d790ce295fa2fd8911cdbe7bf8838dc3fce83c28fb5a08fe91", func := "mortmain/mortmainlaw24.ParcelPuts", spec := "parcelPuts", unfollowed := true, recurses := true, apart := false }
def ParcelPutsSaid : Prop := parcelPutsRow.holds Try.pinned (OpenSpec.ofChange parcelPutsSpec)

/-- ITS FALSE NEIGHBOUR: 'it returns false'. Refute it at one input. -/
def parcelPutsWrong : ChangeSpec := { name := "parcelPuts", fn := fun _ => fun
  | [d1, d2] => { results := [.lit (.bool false)], args := [d1, d2] }
  | _ => none }
def ParcelPutsWrongFalsely : Prop := parcelPutsRow.holds Try.pinned (OpenSpec.ofChange parcelPutsWrong)

/-- 'mortmainlaw24.ParcelBack': WHATEVER THE INPUT: true; the input reads as it did. -/
def parcelBackSpec : ChangeSpec := { name := "parcelBack", fn := fun _ => fun
  | [d1, d2] => { results := [.lit (.bool true)], args := [d1, d2] }
  | _ => none }
def parcelBackRow : OpenClaim := { program := "ytfdckjliinpjiaa", sum := "be0456e63a6117d790ce295fa2fd8911cdbe7bf8838dc3fce83c28fb5a08fe91", func := "mortmain/mortmainlaw24.ParcelBack", spec := "parcelBack", unfollowed := true, recurses := true, apart := false }
def ParcelBackSaid : Prop := parcelBackRow.holds Try.pinned (OpenSpec.ofChange parcelBackSpec)

/-- ITS FALSE NEIGHBOUR: 'it returns false'. Refute it at one input. -/
def parcelBackWrong : ChangeSpec := { name := "parcelBack", fn := fun _ => fun
  | [d1, d2] => { results := [.lit (.bool false)], args := [d1, d2] }
  | _ => none }
def ParcelBackWrongFalsely : Prop := parcelBackRow.holds Try.pinned (OpenSpec.ofChange parcelBackWrong)

/-- 'mortmainlaw24.ParcelOne': WHATEVER THE INPUT: true; the input reads as it did. -/
def parcelOneSpec : ChangeSpec := { name := "parcelOne", fn := fun _ => fun
  | [d] => { results := [.lit (.bool true)], args := [d] }
  | _ => none }
def parcelOneRow : OpenClaim := { program := "ytfdckjliinpjiaa", sum := "be0456e63a6117d790ce295fa2fd8911cdbe7bf8838dc3fce83c28fb5a08fe91", func := "mortmain/mortmainlaw24.ParcelOne", spec := "parcelOne", unfollowed := true, recurses := true, apart := false }
def ParcelOneSaid : Prop := parcelOneRow.holds Try.pinned (OpenSpec.ofChange parcelOneSpec)

/-- ITS FALSE NEIGHBOUR: 'it returns false'. Refute it at one input. -/
def parcelOneWrong : ChangeSpec := { name := "parcelOne", fn := fun _ => fun
  | [d] => { results := [.lit (.bool false)], args := [d] }
  | _ => none }
def ParcelOneWrongFalsely : Prop := parcelOneRow.holds Try.pinned (OpenSpec.ofChange parcelOneWrong)

/-- 'mortmainlaw10.SlotmapDoes': WHATEVER THE INPUT: true; the input reads as it did. -/
def slotmapDoesSpec : ChangeSpec := { name := "slotmapDoes", fn := fun _ => fun
  | [d1, d2] => { results := [.lit (.bool true)], args := [d1, d2] }
  | _ => none }
def slotmapDoesRow : OpenClaim := { program := "ytfdckjliinpjiaa", sum := "be0456e63a6117d790ce295fa2fd8911cdbe7bf8838dc3fce83c28fb5a08fe91", func := "mortmain/mortmainlaw10.SlotmapDoes", spec := "slotmapDoes", unfollowed := true, recurses := true, apart := false }
def SlotmapDoesSaid : Prop := slotmapDoesRow.holds Try.pinned (OpenSpec.ofChange slotmapDoesSpec)

/-- ITS FALSE NEIGHBOUR: 'it returns false'. Refute it at one input. -/
def slotmapDoesWrong : ChangeSpec := { name := "slotmapDoes", fn := fun _ => fun
  | [d1, d2] => { results := [.lit (.bool false)], args := [d1, d2] }
  | _ => none }
def SlotmapDoesWrongFalsely : Prop := slotmapDoesRow.holds Try.pinned (OpenSpec.ofChange slotmapDoesWrong)

/-- 'mortmainlaw10.SlotmapBack': WHATEVER THE INPUT: true; the input reads as it did. -/
def slotmapBackSpec : ChangeSpec := { name := "slotmapBack", fn := fun _ => fun
  | [d1, d2, d3] => { results := [.lit (.bool true)], args := [d1, d2, d3] }
  | _ => none }
def slotmapBackRow : OpenClaim := { program := "ytfdckjliinpjiaa", sum := "be0456e63a6117d790ce295fa2fd8911cdbe7bf8838dc3fce83c28fb5a08fe91", func := "mortmain/mortmainlaw10.SlotmapBack", spec := "slotmapBack", unfollowed := true, recurses := true, apart := false }
def SlotmapBackSaid : Prop := slotmapBackRow.holds Try.pinned (OpenSpec.ofChange slotmapBackSpec)

/-- ITS FALSE NEIGHBOUR: 'it returns false'. Refute it at one input. -/
def slotmapBackWrong : ChangeSpec := { name := "slotmapBack", fn := fun _ => fun
  | [d1, d2, d3] => { results := [.lit (.bool false)], args := [d1, d2, d3] }
  | _ => none }
def SlotmapBackWrongFalsely : Prop := slotmapBackRow.holds Try.pinned (OpenSpec.ofChange slotmapBackWrong)

/-- 'mortmainlaw10.SlotmapParts': WHATEVER THE INPUT: true; the input reads as it did. -/
def slotmapPartsSpec : ChangeSpec := { name := "slotmapParts", fn := fun _ => fun
  | [d1, d2] => { results := [.lit (.bool true)], args := [d1, d2] }
  | _ => none }
def slotmapPartsRow : OpenClaim := { program := "ytfdckjliinpjiaa", sum := "be0456e63a6117d790ce295fa2fd8911cdbe7bf8838dc3fce83c28fb5a08fe91", func := "mortmain/mortmainlaw10.SlotmapParts", spec := "slotmapParts", unfollowed := true, recurses := true, apart := false }
def SlotmapPartsSaid : Prop := slotmapPartsRow.holds Try.pinned (OpenSpec.ofChange slotmapPartsSpec)

/-- ITS FALSE NEIGHBOUR: 'it returns false'. Refute it at one input. -/
def slotmapPartsWrong : ChangeSpec := { name := "slotmapParts", fn := fun _ => fun
  | [d1, d2] => { results := [.lit (.bool false)], args := [d1, d2] }
  | _ => none }
def SlotmapPartsWrongFalsely : Prop := slotmapPartsRow.holds Try.pinned (OpenSpec.ofChange slotmapPartsWrong)

/-- 'mortmainlaw13.ChunkCuts': WHATEVER THE INPUT: true; the input reads as it did. -/
def chunkCutsSpec : ChangeSpec := { name := "chunkCuts", fn := fun _ => fun
  | [d1, d2, d3] => { results := [.lit (.bool true)], args := [d1, d2, d3] }
  | _ => none }
def chunkCutsRow : OpenClaim := { program := "ytfdckjliinpjiaa", sum := "be0456e63a6117d790ce295fa2fd8911cdbe7bf8838dc3fce83c28fb5a08fe91", func := "mortmain/mortmainlaw13.ChunkCuts", spec := "chunkCuts", unfollowed := true, recurses := true, apart := false }
def ChunkCutsSaid : Prop := chunkCutsRow.holds Try.pinned (OpenSpec.ofChange chunkCutsSpec)

/-- ITS FALSE NEIGHBOUR: 'it returns false'. Refute it at one input. -/
def chunkCutsWrong : ChangeSpec := { name := "chunkCuts", fn := fun _ => fun
  | [d1, d2, d3] => { results := [.lit (.bool false)], args := [d1, d2, d3] }
  | _ => none }
def ChunkCutsWrongFalsely : Prop := chunkCutsRow.holds Try.pinned (OpenSpec.ofChange chunkCutsWrong)

/-- 'mortmainlaw13.ChunkNames': WHATEVER THE INPUT: true; the input reads as it did. -/
def chunkNamesSpec : ChangeSpec := { name := "chunkNames", fn := fun _ => fun
  | [d] => { results := [.lit (.bool true)], args := [d] }
  | _ => none }
def chunkNamesRow : OpenClaim := { program := "ytfdckjliinpjiaa", sum := "be0456e63a6117d790ce295fa2fd8911cdbe7bf8838dc3fce83c28fb5a08fe91", func := "mortmain/mortmainlaw13.ChunkNames", spec := "chunkNames", unfollowed := true, recurses := true, apart := false }
def ChunkNamesSaid : Prop := chunkNamesRow.holds Try.pinned (OpenSpec.ofChange chunkNamesSpec)

/-- ITS FALSE NEIGHBOUR: 'it returns false'. Refute it at one input. -/
def chunkNamesWrong : ChangeSpec := { name := "chunkNames", fn := fun _ => fun
  | [d] => { results := [.lit (.bool false)], args := [d] }
  | _ => none }
def ChunkNamesWrongFalsely : Prop := chunkNamesRow.holds Try.pinned (OpenSpec.ofChange chunkNamesWrong)

/-- 'mortmainlaw13.ChunkBack': WHATEVER THE INPUT: true; the input reads as it did. -/
def chunkBackSpec : ChangeSpec := { name := "chunkBack", fn := fun _ => fun
  | [d1, d2, d3] => { results := [.lit (.bool true)], args := [d1, d2, d3] }
  | _ => none }
def chunkBackRow : OpenClaim := { program := "ytfdckjliinpjiaa", sum := "be0456e63a6117d790ce295fa2fd8911cdbe7bf8838dc3fce83c28fb5a08fe91", func := "mortmain/mortmainlaw13.ChunkBack", spec := "chunkBack", unfollowed := true, recurses := true, apart := false }
def ChunkBackSaid : Prop := chunkBackRow.holds Try.pinned (OpenSpec.ofChange chunkBackSpec)

/-- ITS FALSE NEIGHBOUR: 'it returns false'. Refute it at one input. -/
def chunkBackWrong : ChangeSpec := { name := "chunkBack", fn := fun _ => fun
  | [d1, d2, d3] => { results := [.lit (.bool false)], args := [d1, d2, d3] }
  | _ => none }
def ChunkBackWrongFalsely : Prop := chunkBackRow.holds Try.pinned (OpenSpec.ofChange chunkBackWrong)

/-- 'mortmainlaw31.TreeRoots': WHATEVER THE INPUT: true; the input reads as it did. -/
def treeRootsSpec : ChangeSpec := { name := "treeRoots", fn := fun _ => fun
  | [d1, d2, d3] => { results := [.lit (.bool true)], args := [d1, d2, d3] }
  | _ => none }
def treeRootsRow : OpenClaim := { program := "ytfdckjliinpjiaa", sum := "be0456e63a6117d790ce295fa2fd8911cdbe7bf8838dc3fce83c28fb5a08fe91", func := "mortmain/mortmainlaw31.TreeRoots", spec := "treeRoots", recurses := true, apart := false }
def TreeRootsSaid : Prop := treeRootsRow.holds Try.pinned (OpenSpec.ofChange treeRootsSpec)

/-- ITS FALSE NEIGHBOUR: 'it returns false'. Refute it at one input. -/
def treeRootsWrong : ChangeSpec := { name := "treeRoots", fn := fun _ => fun
  | [d1, d2, d3] => { results := [.lit (.bool false)], args := [d1, d2, d3] }
  | _ => none }
def TreeRootsWrongFalsely : Prop := treeRootsRow.holds Try.pinned (OpenSpec.ofChange treeRootsWrong)

/-- 'mortmainlaw31.TreeBack': WHATEVER THE INPUT: true; the input reads as it did. -/
def treeBackSpec : ChangeSpec := { name := "treeBack", fn := fun _ => fun
  | [d] => { results := [.lit (.bool true)], args := [d] }
  | _ => none }
def treeBackRow : OpenClaim := { program := "ytfdckjliinpjiaa", sum := "be0456e63a6117d790ce295fa2fd8911cdbe7bf8838dc3fce83c28fb5a08fe91", func := "mortmain/mortmainlaw31.TreeBack", spec := "treeBack", apart := false }
def TreeBackSaid : Prop := treeBackRow.holds Try.pinned (OpenSpec.ofChange treeBackSpec)

/-- ITS FALSE NEIGHBOUR: 'it returns false'. Refute it at one input. -/
def treeBackWrong : ChangeSpec := { name := "treeBack", fn := fun _ => fun
  | [d] => { results := [.lit (.bool false)], args := [d] }
  | _ => none }
def TreeBackWrongFalsely : Prop := treeBackRow.holds Try.pinned (OpenSpec.ofChange treeBackWrong)

/-- 'mortmainlaw31.TreeTells': WHATEVER THE INPUT: true; the input reads as it did. -/
def treeTellsSpec : ChangeSpec := { name := "treeTells", fn := fun _ => fun
  | [d1, d2, d3] => { results := [.lit (.bool true)], args := [d1, d2, d3] }
  | _ => none }
def treeTellsRow : OpenClaim := { program := "ytfdckjliinpjiaa", sum := "be0456e63a6117d790ce295fa2fd8911cdbe7bf8838dc3fce83c28fb5a08fe91", func := "mortmain/mortmainlaw31.TreeTells", spec := "treeTells", recurses := true, apart := false }
def TreeTellsSaid : Prop := treeTellsRow.holds Try.pinned (OpenSpec.ofChange treeTellsSpec)

/-- ITS FALSE NEIGHBOUR: 'it returns false'. Refute it at one input. -/
def treeTellsWrong : ChangeSpec := { name := "treeTells", fn := fun _ => fun
  | [d1, d2, d3] => { results := [.lit (.bool false)], args := [d1, d2, d3] }
  | _ => none }
def TreeTellsWrongFalsely : Prop := treeTellsRow.holds Try.pinned (OpenSpec.ofChange treeTellsWrong)

/- THE SECOND FORM. 'bulk': how many values and letters a reading holds, each counted each time it is reached (what is shared counts as often as it is met; a slice's spare places count too). A statement '..UptoSaid' is the law's where the arguments, and the package variables that the reading takes, are together of bulk at most 1048576: NARROWER than '..Said'. Prove '..Said' where nothing that the law and all that it calls make is longer than what came in: it says more and counts as full. Else prove '..UptoSaid'. A law counts once. -/
mutual
def uptoBulk {H : Type} : DataW H → Nat
  | .lit (.string bytes) => bytes.length + 1
  | .lit _ => 1
  | .nil => 1
  | .ptr d => uptoBulk d + 1
  | .slice elems spare => uptoBulkAll elems + uptoBulkAll spare + 1
  | .agg parts => uptoBulkAll parts + 1
  | .iface _ d => uptoBulk d + 1
  | .map entries => uptoBulkEntries entries + 1
  | .held _ => 1
def uptoBulkAll {H : Type} : List (DataW H) → Nat
  | [] => 0
  | d :: r => uptoBulk d + uptoBulkAll r
def uptoBulkEntries {H : Type} : List (Lit × DataW H) → Nat
  | [] => 0
  | x :: r => uptoBulkEntry x + uptoBulkEntries r
def uptoBulkEntry {H : Type} : Lit × DataW H → Nat
  | (.string bytes, d) => bytes.length + uptoBulk d + 1
  | (_, d) => uptoBulk d + 1
 end
def uptoSmall : (H : Type) → List (DataW H) → Bool := fun _ ds => decide (uptoBulkAll ds ≤ 1048576)
def OpenSpec.upto (s : _root_.Go.ChangeSpec) : _root_.Go.OpenSpec := { _root_.Go.OpenSpec.ofChange s with cond := some uptoSmall }

/-- 'mortmainlaw24.ParcelPuts', WHERE WHAT IT READS IS OF BULK AT MOST 1048576: true; the input reads as it did. -/
def parcelPutsUptoRow : OpenClaim := { program := "ytfdckjliinpjiaa", sum := "be0456e63a6117d790ce295fa2fd8911cdbe7bf8838dc3fce83c28fb5a08fe91", func := "mortmain/mortmainlaw24.ParcelPuts", spec := "parcelPuts", unfollowed := true, recurses := true, apart := false, narrowed := true }
def ParcelPutsUptoSaid : Prop := parcelPutsUptoRow.holds Try.pinned (OpenSpec.upto parcelPutsSpec)

/-- 'mortmainlaw24.ParcelBack', WHERE WHAT IT READS IS OF BULK AT MOST 1048576: true; the input reads as it did. -/
def parcelBackUptoRow : OpenClaim := { program := "ytfdckjliinpjiaa", sum := "be0456e63a6117d790ce295fa2fd8911cdbe7bf8838dc3fce83c28fb5a08fe91", func := "mortmain/mortmainlaw24.ParcelBack", spec := "parcelBack", unfollowed := true, recurses := true, apart := false, narrowed := true }
def ParcelBackUptoSaid : Prop := parcelBackUptoRow.holds Try.pinned (OpenSpec.upto parcelBackSpec)

/-- 'mortmainlaw24.ParcelOne', WHERE WHAT IT READS IS OF BULK AT MOST 1048576: true; the input reads as it did. -/
def parcelOneUptoRow : OpenClaim := { program := "ytfdckjliinpjiaa", sum := "be0456e63a6117d790ce295fa2fd8911cdbe7bf8838dc3fce83c28fb5a08fe91", func := "mortmain/mortmainlaw24.ParcelOne", spec := "parcelOne", unfollowed := true, recurses := true, apart := false, narrowed := true }
def ParcelOneUptoSaid : Prop := parcelOneUptoRow.holds Try.pinned (OpenSpec.upto parcelOneSpec)

/-- 'mortmainlaw10.SlotmapDoes', WHERE WHAT IT READS IS OF BULK AT MOST 1048576: true; the input reads as it did. -/
def slotmapDoesUptoRow : OpenClaim := { program := "ytfdckjliinpjiaa", sum := "be0456e63a6117d790ce295fa2fd8911cdbe7bf8838dc3fce83c28fb5a08fe91", func := "mortmain/mortmainlaw10.SlotmapDoes", spec := "slotmapDoes", unfollowed := true, recurses := true, apart := false, narrowed := true }
def SlotmapDoesUptoSaid : Prop := slotmapDoesUptoRow.holds Try.pinned (OpenSpec.upto slotmapDoesSpec)

/-- 'mortmainlaw10.SlotmapBack', WHERE WHAT IT READS IS OF BULK AT MOST 1048576: true; the input reads as it did. -/
def slotmapBackUptoRow : OpenClaim := { program := "ytfdckjliinpjiaa", sum := "be0456e63a6117d790ce295fa2fd8911cdbe7bf8838dc3fce83c28fb5a08fe91", func := "mortmain/mortmainlaw10.SlotmapBack", spec := "slotmapBack", unfollowed := true, recurses := true, apart := false, narrowed := true }
def SlotmapBackUptoSaid : Prop := slotmapBackUptoRow.holds Try.pinned (OpenSpec.upto slotmapBackSpec)

/-- 'mortmainlaw10.SlotmapParts', WHERE WHAT IT READS IS OF BULK AT MOST 1048576: true; the input reads as it did. -/
def slotmapPartsUptoRow : OpenClaim := { program := "ytfdckjliinpjiaa", sum := "be0456e63a6117d790ce295fa2fd8911cdbe7bf8838dc3fce83c28fb5a08fe91", func := "mortmain/mortmainlaw10.SlotmapParts", spec := "slotmapParts", unfollowed := true, recurses := true, apart := false, narrowed := true }
def SlotmapPartsUptoSaid : Prop := slotmapPartsUptoRow.holds Try.pinned (OpenSpec.upto slotmapPartsSpec)

/-- 'mortmainlaw13.ChunkCuts', WHERE WHAT IT READS IS OF BULK AT MOST 1048576: true; the input reads as it did. -/
def chunkCutsUptoRow : OpenClaim := { program := "ytfdckjliinpjiaa", sum := "be0456e63a6117d790ce295fa2fd8911cdbe7bf8838dc3fce83c28fb5a08fe91", func := "mortmain/mortmainlaw13.ChunkCuts", spec := "chunkCuts", unfollowed := true, recurses := true, apart := false, narrowed := true }
def ChunkCutsUptoSaid : Prop := chunkCutsUptoRow.holds Try.pinned (OpenSpec.upto chunkCutsSpec)

/-- 'mortmainlaw13.ChunkNames', WHERE WHAT IT READS IS OF BULK AT MOST 1048576: true; the input reads as it did. -/
def chunkNamesUptoRow : OpenClaim := { program := "ytfdckjliinpjiaa", sum := "be0456e63a6117d790ce295fa2fd8911cdbe7bf8838dc3fce83c28fb5a08fe91", func := "mortmain/mortmainlaw13.ChunkNames", spec := "chunkNames", unfollowed := true, recurses := true, apart := false, narrowed := true }
def ChunkNamesUptoSaid : Prop := chunkNamesUptoRow.holds Try.pinned (OpenSpec.upto chunkNamesSpec)

/-- 'mortmainlaw13.ChunkBack', WHERE WHAT IT READS IS OF BULK AT MOST 1048576: true; the input reads as it did. -/
def chunkBackUptoRow : OpenClaim := { program := "ytfdckjliinpjiaa", sum := "be0456e63a6117d790ce295fa2fd8911cdbe7bf8838dc3fce83c28fb5a08fe91", func := "mortmain/mortmainlaw13.ChunkBack", spec := "chunkBack", unfollowed := true, recurses := true, apart := false, narrowed := true }
def ChunkBackUptoSaid : Prop := chunkBackUptoRow.holds Try.pinned (OpenSpec.upto chunkBackSpec)

/-- 'mortmainlaw31.TreeRoots', WHERE WHAT IT READS IS OF BULK AT MOST 1048576: true; the input reads as it did. -/
def treeRootsUptoRow : OpenClaim := { program := "ytfdckjliinpjiaa", sum := "be0456e63a6117d790ce295fa2fd8911cdbe7bf8838dc3fce83c28fb5a08fe91", func := "mortmain/mortmainlaw31.TreeRoots", spec := "treeRoots", recurses := true, apart := false, narrowed := true }
def TreeRootsUptoSaid : Prop := treeRootsUptoRow.holds Try.pinned (OpenSpec.upto treeRootsSpec)

/-- 'mortmainlaw31.TreeBack', WHERE WHAT IT READS IS OF BULK AT MOST 1048576: true; the input reads as it did. -/
def treeBackUptoRow : OpenClaim := { program := "ytfdckjliinpjiaa", sum := "be0456e63a6117d790ce295fa2fd8911cdbe7bf8838dc3fce83c28fb5a08fe91", func := "mortmain/mortmainlaw31.TreeBack", spec := "treeBack", apart := false, narrowed := true }
def TreeBackUptoSaid : Prop := treeBackUptoRow.holds Try.pinned (OpenSpec.upto treeBackSpec)

/-- 'mortmainlaw31.TreeTells', WHERE WHAT IT READS IS OF BULK AT MOST 1048576: true; the input reads as it did. -/
def treeTellsUptoRow : OpenClaim := { program := "ytfdckjliinpjiaa", sum := "be0456e63a6117d790ce295fa2fd8911cdbe7bf8838dc3fce83c28fb5a08fe91", func := "mortmain/mortmainlaw31.TreeTells", spec := "treeTells", recurses := true, apart := false, narrowed := true }
def TreeTellsUptoSaid : Prop := treeTellsUptoRow.holds Try.pinned (OpenSpec.upto treeTellsSpec)

end Rows
end Go.Proofs.Ytfdckjliinpjiaa
