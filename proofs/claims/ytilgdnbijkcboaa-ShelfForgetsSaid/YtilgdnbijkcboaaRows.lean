/-
  No cell of these rows narrows 'for every input' (looked for: loops, veiled, ifaces, maps, wideKeys, modest, calm, conditions, laid).
  DERIVED. THE GIVEN ROWS OF THIS SEAT. 10 by the template 'for every input the law returns true; each argument reads behind the call as it read before'; 0 by the template 'total and deterministic' (their statements: YtilgdnbijkcboaaTotals.lean).
  GIVEN WITH THE SEED: the statements are not yours to turn. If you find one false, say at which input.
  Laid BY PROGRAM, IN A SANDBOX (cutbox-rows.mjs): the forced cells as the released guide's own fill.sh prints them over the translation 2d4af3ea07474923… (all of the seat's roots in one cut). By AI agents, Wed Nov 11 2026. No macro, syntax, notation, axiom, sorry.
-/
import Derived.Test.YtilgdnbijkcboaaChecked
import GoSem.Claim
import GoSem.ClaimJoined
import GoSem.ClaimMapViews
import Derived.JoinedTies
import Derived.KernelRfl
namespace Go.Proofs.Ytilgdnbijkcboaa
/- THE CELL 'sum', in the pinned program and in every row, IS THE sha256 OF THE DUMP (.gsa) THAT YtilgdnbijkcboaaProg.lean LOADS. Nothing in Lean hashes anything: it is a label: what it is worth is what the hold of that sum in a sandbox is worth. -/
noncomputable def Try.pinned : Pinned := { name := "ytilgdnbijkcboaa", sum := "2d4af3ea0747492373f3b4f4f18a90ed8a919c9de283bd70811194eb8f4567f1", checked := Try.checked }
namespace Rows
def none {H : Type} : Left H := { results := [], args := [] }

/-- 'mortmainlaw11.TableDoes': WHATEVER THE INPUT: true; the input reads as it did. -/
def tableDoesSpec : ChangeSpec := { name := "tableDoes", fn := fun _ => fun
  | [d1, d2, d3, d4] => { results := [.lit (.bool true)], args := [d1, d2, d3, d4] }
  | _ => none }
def tableDoesRow : OpenClaim := { program := "ytilgdnbijkcboaa", sum := "2d4af3ea0747492373f3b4f4f18a90ed8a919c9de283bd70811194eb8f4567f1", func := "mortmain/mortmainlaw11.TableDoes", spec := "tableDoes", apart := false }
def TableDoesSaid : Prop := tableDoesRow.holds Try.pinned (OpenSpec.ofChange tableDoesSpec)

/-- ITS FALSE NEIGHBOUR: 'it returns false'. Refute it at one input. -/
def tableDoesWrong : ChangeSpec := { name := "tableDoes", fn := fun _ => fun
  | [d1, d2, d3, d4] => { results := [.lit (.bool false)], args := [d1, d2, d3, d4] }
  | _ => none }
def TableDoesWrongFalsely : Prop := tableDoesRow.holds Try.pinned (OpenSpec.ofChange tableDoesWrong)

/-- 'mortmainlaw11.TableOne': WHATEVER THE INPUT: true; the input reads as it did. -/
def tableOneSpec : ChangeSpec := { name := "tableOne", fn := fun _ => fun
  | [d1, d2] => { results := [.lit (.bool true)], args := [d1, d2] }
  | _ => none }
def tableOneRow : OpenClaim := { program := "ytilgdnbijkcboaa", sum := "2d4af3ea0747492373f3b4f4f18a90ed8a919c9de283bd70811194eb8f4567f1", func := "mortmain/mortmainlaw11.TableOne", spec := "tableOne", apart := false }
def TableOneSaid : Prop := tableOneRow.holds Try.pinned (OpenSpec.ofChange tableOneSpec)

/-- ITS FALSE NEIGHBOUR: 'it returns false'. Refute it at one input. -/
def tableOneWrong : ChangeSpec := { name := "tableOne", fn := fun _ => fun
  | [d1, d2] => { results := [.lit (.bool false)], args := [d1, d2] }
  | _ => none }
def TableOneWrongFalsely : Prop := tableOneRow.holds Try.pinned (OpenSpec.ofChange tableOneWrong)

/-- 'mortmainlaw11.TableForgets': WHATEVER THE INPUT: true; the input reads as it did. -/
def tableForgetsSpec : ChangeSpec := { name := "tableForgets", fn := fun _ => fun
  | [d1, d2, d3, d4] => { results := [.lit (.bool true)], args := [d1, d2, d3, d4] }
  | _ => none }
def tableForgetsRow : OpenClaim := { program := "ytilgdnbijkcboaa", sum := "2d4af3ea0747492373f3b4f4f18a90ed8a919c9de283bd70811194eb8f4567f1", func := "mortmain/mortmainlaw11.TableForgets", spec := "tableForgets", apart := false }
def TableForgetsSaid : Prop := tableForgetsRow.holds Try.pinned (OpenSpec.ofChange tableForgetsSpec)

/-- ITS FALSE NEIGHBOUR: 'it returns false'. Refute it at one input. -/
def tableForgetsWrong : ChangeSpec := { name := "tableForgets", fn := fun _ => fun
  | [d1, d2, d3, d4] => { results := [.lit (.bool false)], args := [d1, d2, d3, d4] }
  | _ => none }
def TableForgetsWrongFalsely : Prop := tableForgetsRow.holds Try.pinned (OpenSpec.ofChange tableForgetsWrong)

/-- 'mortmainlaw11.TableReads': WHATEVER THE INPUT: true; the input reads as it did. -/
def tableReadsSpec : ChangeSpec := { name := "tableReads", fn := fun _ => fun
  | [d1, d2] => { results := [.lit (.bool true)], args := [d1, d2] }
  | _ => none }
def tableReadsRow : OpenClaim := { program := "ytilgdnbijkcboaa", sum := "2d4af3ea0747492373f3b4f4f18a90ed8a919c9de283bd70811194eb8f4567f1", func := "mortmain/mortmainlaw11.TableReads", spec := "tableReads", apart := false }
def TableReadsSaid : Prop := tableReadsRow.holds Try.pinned (OpenSpec.ofChange tableReadsSpec)

/-- ITS FALSE NEIGHBOUR: 'it returns false'. Refute it at one input. -/
def tableReadsWrong : ChangeSpec := { name := "tableReads", fn := fun _ => fun
  | [d1, d2] => { results := [.lit (.bool false)], args := [d1, d2] }
  | _ => none }
def TableReadsWrongFalsely : Prop := tableReadsRow.holds Try.pinned (OpenSpec.ofChange tableReadsWrong)

/-- 'mortmainlaw08.SuperPuts': WHATEVER THE INPUT: true; the input reads as it did. -/
def superPutsSpec : ChangeSpec := { name := "superPuts", fn := fun _ => fun
  | [d1, d2, d3, d4] => { results := [.lit (.bool true)], args := [d1, d2, d3, d4] }
  | _ => none }
def superPutsRow : OpenClaim := { program := "ytilgdnbijkcboaa", sum := "2d4af3ea0747492373f3b4f4f18a90ed8a919c9de283bd70811194eb8f4567f1", func := "mortmain/mortmainlaw08.SuperPuts", spec := "superPuts", unfollowed := true, recurses := true, apart := false }
def SuperPutsSaid : Prop := superPutsRow.holds Try.pinned (OpenSpec.ofChange superPutsSpec)

/-- ITS FALSE NEIGHBOUR: 'it returns false'. Refute it at one input. -/
def superPutsWrong : ChangeSpec := { name := "superPuts", fn := fun _ => fun
  | [d1, d2, d3, d4] => { results := [.lit (.bool false)], args := [d1, d2, d3, d4] }
  | _ => none }
def SuperPutsWrongFalsely : Prop := superPutsRow.holds Try.pinned (OpenSpec.ofChange superPutsWrong)

/-- 'mortmainlaw08.SuperBack': WHATEVER THE INPUT: true; the input reads as it did. -/
def superBackSpec : ChangeSpec := { name := "superBack", fn := fun _ => fun
  | [d1, d2, d3, d4] => { results := [.lit (.bool true)], args := [d1, d2, d3, d4] }
  | _ => none }
def superBackRow : OpenClaim := { program := "ytilgdnbijkcboaa", sum := "2d4af3ea0747492373f3b4f4f18a90ed8a919c9de283bd70811194eb8f4567f1", func := "mortmain/mortmainlaw08.SuperBack", spec := "superBack", unfollowed := true, recurses := true, apart := false }
def SuperBackSaid : Prop := superBackRow.holds Try.pinned (OpenSpec.ofChange superBackSpec)

/-- ITS FALSE NEIGHBOUR: 'it returns false'. Refute it at one input. -/
def superBackWrong : ChangeSpec := { name := "superBack", fn := fun _ => fun
  | [d1, d2, d3, d4] => { results := [.lit (.bool false)], args := [d1, d2, d3, d4] }
  | _ => none }
def SuperBackWrongFalsely : Prop := superBackRow.holds Try.pinned (OpenSpec.ofChange superBackWrong)

/-- 'mortmainlaw08.SuperBumps': WHATEVER THE INPUT: true; the input reads as it did. -/
def superBumpsSpec : ChangeSpec := { name := "superBumps", fn := fun _ => fun
  | [d1, d2, d3, d4] => { results := [.lit (.bool true)], args := [d1, d2, d3, d4] }
  | _ => none }
def superBumpsRow : OpenClaim := { program := "ytilgdnbijkcboaa", sum := "2d4af3ea0747492373f3b4f4f18a90ed8a919c9de283bd70811194eb8f4567f1", func := "mortmain/mortmainlaw08.SuperBumps", spec := "superBumps", unfollowed := true, recurses := true, apart := false }
def SuperBumpsSaid : Prop := superBumpsRow.holds Try.pinned (OpenSpec.ofChange superBumpsSpec)

/-- ITS FALSE NEIGHBOUR: 'it returns false'. Refute it at one input. -/
def superBumpsWrong : ChangeSpec := { name := "superBumps", fn := fun _ => fun
  | [d1, d2, d3, d4] => { results := [.lit (.bool false)], args := [d1, d2, d3, d4] }
  | _ => none }
def SuperBumpsWrongFalsely : Prop := superBumpsRow.holds Try.pinned (OpenSpec.ofChange superBumpsWrong)

/-- 'mortmainlaw12.ShelfBack': WHATEVER THE INPUT: true; the input reads as it did. -/
def shelfBackSpec : ChangeSpec := { name := "shelfBack", fn := fun _ => fun
  | [d1, d2, d3] => { results := [.lit (.bool true)], args := [d1, d2, d3] }
  | _ => none }
def shelfBackRow : OpenClaim := { program := "ytilgdnbijkcboaa", sum := "2d4af3ea0747492373f3b4f4f18a90ed8a919c9de283bd70811194eb8f4567f1", func := "mortmain/mortmainlaw12.ShelfBack", spec := "shelfBack", recurses := true, apart := false }
def ShelfBackSaid : Prop := shelfBackRow.holds Try.pinned (OpenSpec.ofChange shelfBackSpec)

/-- ITS FALSE NEIGHBOUR: 'it returns false'. Refute it at one input. -/
def shelfBackWrong : ChangeSpec := { name := "shelfBack", fn := fun _ => fun
  | [d1, d2, d3] => { results := [.lit (.bool false)], args := [d1, d2, d3] }
  | _ => none }
def ShelfBackWrongFalsely : Prop := shelfBackRow.holds Try.pinned (OpenSpec.ofChange shelfBackWrong)

/-- 'mortmainlaw12.ShelfReads': WHATEVER THE INPUT: true; the input reads as it did. -/
def shelfReadsSpec : ChangeSpec := { name := "shelfReads", fn := fun _ => fun
  | [d] => { results := [.lit (.bool true)], args := [d] }
  | _ => none }
def shelfReadsRow : OpenClaim := { program := "ytilgdnbijkcboaa", sum := "2d4af3ea0747492373f3b4f4f18a90ed8a919c9de283bd70811194eb8f4567f1", func := "mortmain/mortmainlaw12.ShelfReads", spec := "shelfReads", recurses := true, apart := false }
def ShelfReadsSaid : Prop := shelfReadsRow.holds Try.pinned (OpenSpec.ofChange shelfReadsSpec)

/-- ITS FALSE NEIGHBOUR: 'it returns false'. Refute it at one input. -/
def shelfReadsWrong : ChangeSpec := { name := "shelfReads", fn := fun _ => fun
  | [d] => { results := [.lit (.bool false)], args := [d] }
  | _ => none }
def ShelfReadsWrongFalsely : Prop := shelfReadsRow.holds Try.pinned (OpenSpec.ofChange shelfReadsWrong)

/-- 'mortmainlaw12.ShelfForgets': WHATEVER THE INPUT: true; the input reads as it did. -/
def shelfForgetsSpec : ChangeSpec := { name := "shelfForgets", fn := fun _ => fun
  | [d1, d2] => { results := [.lit (.bool true)], args := [d1, d2] }
  | _ => none }
def shelfForgetsRow : OpenClaim := { program := "ytilgdnbijkcboaa", sum := "2d4af3ea0747492373f3b4f4f18a90ed8a919c9de283bd70811194eb8f4567f1", func := "mortmain/mortmainlaw12.ShelfForgets", spec := "shelfForgets", apart := false }
def ShelfForgetsSaid : Prop := shelfForgetsRow.holds Try.pinned (OpenSpec.ofChange shelfForgetsSpec)

/-- ITS FALSE NEIGHBOUR: 'it returns false'. Refute it at one input. -/
def shelfForgetsWrong : ChangeSpec := { name := "shelfForgets", fn := fun _ => fun
  | [d1, d2] => { results := [.lit (.bool false)], args := [d1, d2] }
  | _ => none }
def ShelfForgetsWrongFalsely : Prop := shelfForgetsRow.holds Try.pinned (OpenSpec.ofChange shelfForgetsWrong)

/- THE SECOND FORM. 'bulk': how many values and letters a reading holds, each counted each time it is reached (what is shared counts as often as it is met; a slice's spare places count too). A statement '..UptoSaid' is the law's where the arguments, and the package variables that the reading takes, are together of bulk at most 1048576: NARROWER than '..Said'. Prove '..Said' where nothing that the law and all that it calls make is longer than what came in: it says more and counts as full. Else prove '..UptoSaid'. A law counts once. -/
mutual
def uptoBulk {H : Type} : DataW H → Nat
  | .lit (.string bytes) => bytes.length + 1
  | .lit _ => 1
  | .nil => 1
  | .ptr d => uptoBulk d + 1
  | .slice elems spare => uptoBulkAll elems + uptoBulkAll spare + 1
  | .agg parts => uptoBulkAll parts + 1
  | .iface _ d => uptoBulk d + 1
  | .map entries => uptoBulkEntries entries + 1
  | .held _ => 1
def uptoBulkAll {H : Type} : List (DataW H) → Nat
  | [] => 0
  | d :: r => uptoBulk d + uptoBulkAll r
def uptoBulkEntries {H : Type} : List (Lit × DataW H) → Nat
  | [] => 0
  | x :: r => uptoBulkEntry x + uptoBulkEntries r
def uptoBulkEntry {H : Type} : Lit × DataW H → Nat
  | (.string bytes, d) => bytes.length + uptoBulk d + 1
  | (_, d) => uptoBulk d + 1
 end
def uptoSmall : (H : Type) → List (DataW H) → Bool := fun _ ds => decide (uptoBulkAll ds ≤ 1048576)
def OpenSpec.upto (s : _root_.Go.ChangeSpec) : _root_.Go.OpenSpec := { _root_.Go.OpenSpec.ofChange s with cond := some uptoSmall }

/-- 'mortmainlaw11.TableDoes', WHERE WHAT IT READS IS OF BULK AT MOST 1048576: true; the input reads as it did. -/
def tableDoesUptoRow : OpenClaim := { program := "ytilgdnbijkcboaa", sum := "2d4af3ea0747492373f3b4f4f18a90ed8a919c9de283bd70811194eb8f4567f1", func := "mortmain/mortmainlaw11.TableDoes", spec := "tableDoes", apart := false, narrowed := true }
def TableDoesUptoSaid : Prop := tableDoesUptoRow.holds Try.pinned (OpenSpec.upto tableDoesSpec)

/-- 'mortmainlaw11.TableOne', WHERE WHAT IT READS IS OF BULK AT MOST 1048576: true; the input reads as it did. -/
def tableOneUptoRow : OpenClaim := { program := "ytilgdnbijkcboaa", sum := "2d4af3ea0747492373f3b4f4f18a90ed8a919c9de283bd70811194eb8f4567f1", func := "mortmain/mortmainlaw11.TableOne", spec := "tableOne", apart := false, narrowed := true }
def TableOneUptoSaid : Prop := tableOneUptoRow.holds Try.pinned (OpenSpec.upto tableOneSpec)

/-- 'mortmainlaw11.TableForgets', WHERE WHAT IT READS IS OF BULK AT MOST 1048576: true; the input reads as it did. -/
def tableForgetsUptoRow : OpenClaim := { program := "ytilgdnbijkcboaa", sum := "2d4af3ea0747492373f3b4f4f18a90ed8a919c9de283bd70811194eb8f4567f1", func := "mortmain/mortmainlaw11.TableForgets", spec := "tableForgets", apart := false, narrowed := true }
def TableForgetsUptoSaid : Prop := tableForgetsUptoRow.holds Try.pinned (OpenSpec.upto tableForgetsSpec)

/-- 'mortmainlaw11.TableReads', WHERE WHAT IT READS IS OF BULK AT MOST 1048576: true; the input reads as it did. -/
def tableReadsUptoRow : OpenClaim := { program := "ytilgdnbijkcboaa", sum := "2d4af3ea0747492373f3b4f4f18a90ed8a919c9de283bd70811194eb8f4567f1", func := "mortmain/mortmainlaw11.TableReads", spec := "tableReads", apart := false, narrowed := true }
def TableReadsUptoSaid : Prop := tableReadsUptoRow.holds Try.pinned (OpenSpec.upto tableReadsSpec)

/-- 'mortmainlaw08.SuperPuts', WHERE WHAT IT READS IS OF BULK AT MOST 1048576: true; the input reads as it did. -/
def superPutsUptoRow : OpenClaim := { program := "ytilgdnbijkcboaa", sum := "2d4af3ea0747492373f3b4f4f18a90ed8a919c9de283bd70811194eb8f4567f1", func := "mortmain/mortmainlaw08.SuperPuts", spec := "superPuts", unfollowed := true, recurses := true, apart := false, narrowed := true }
def SuperPutsUptoSaid : Prop := superPutsUptoRow.holds Try.pinned (OpenSpec.upto superPutsSpec)

/-- 'mortmainlaw08.SuperBack', WHERE WHAT IT READS IS OF BULK AT MOST 1048576: true; the input reads as it did. -/
def superBackUptoRow : OpenClaim := { program := "ytilgdnbijkcboaa", sum := "2d4af3ea0747492373f3b4f4f18a90ed8a919c9de283bd70811194eb8f4567f1", func := "mortmain/mortmainlaw08.SuperBack", spec := "superBack", unfollowed := true, recurses := true, apart := false, narrowed := true }
def SuperBackUptoSaid : Prop := superBackUptoRow.holds Try.pinned (OpenSpec.upto superBackSpec)

/-- 'mortmainlaw08.SuperBumps', WHERE WHAT IT READS IS OF BULK AT MOST 1048576: true; the input reads as it did. -/
def superBumpsUptoRow : OpenClaim := { program := "ytilgdnbijkcboaa", sum := "2d4af3ea0747492373f3b4f4f18a90ed8a919c9de283bd70811194eb8f4567f1", func := "mortmain/mortmainlaw08.SuperBumps", spec := "superBumps", unfollowed := true, recurses := true, apart := false, narrowed := true }
def SuperBumpsUptoSaid : Prop := superBumpsUptoRow.holds Try.pinned (OpenSpec.upto superBumpsSpec)

/-- 'mortmainlaw12.ShelfBack', WHERE WHAT IT READS IS OF BULK AT MOST 1048576: true; the input reads as it did. -/
def shelfBackUptoRow : OpenClaim := { program := "ytilgdnbijkcboaa", sum := "2d4af3ea0747492373f3b4f4f18a90ed8a919c9de283bd70811194eb8f4567f1", func := "mortmain/mortmainlaw12.ShelfBack", spec := "shelfBack", recurses := true, apart := false, narrowed := true }
def ShelfBackUptoSaid : Prop := shelfBackUptoRow.holds Try.pinned (OpenSpec.upto shelfBackSpec)

/-- 'mortmainlaw12.ShelfReads', WHERE WHAT IT READS IS OF BULK AT MOST 1048576: true; the input reads as it did. -/
def shelfReadsUptoRow : OpenClaim := { program := "ytilgdnbijkcboaa", sum := "2d4af3ea0747492373f3b4f4f18a90ed8a919c9de283bd70811194eb8f4567f1", func := "mortmain/mortmainlaw12.ShelfReads", spec := "shelfReads", recurses := true, apart := false, narrowed := true }
def ShelfReadsUptoSaid : Prop := shelfReadsUptoRow.holds Try.pinned (OpenSpec.upto shelfReadsSpec)

/-- 'mortmainlaw12.ShelfForgets', WHERE WHAT IT READS IS OF BULK AT MOST 1048576: true; the input reads as it did. -/
def shelfForgetsUptoRow : OpenClaim := { program := "ytilgdnbijkcboaa", sum := "2d4af3ea0747492373f3b4f4f18a90ed8a919c9de283bd70811194eb8f4567f1", func := "mortmain/mortmainlaw12.ShelfForgets", spec := "shelfForgets", apart := false, narrowed := true }
def ShelfForgetsUptoSaid : Prop := shelfForgetsUptoRow.holds Try.pinned (OpenSpec.upto shelfForgetsSpec)

end Rows
end Go.Proofs.Ytilgdnbijkcboaa
