/-
  No cell of these rows narrows 'for every input' (looked for: loops, veiled, ifaces, maps, wideKeys, modest, calm, conditions, laid).
  DERIVED. THE GIVEN ROWS OF THIS SEAT. 12 by the template 'for every input the law returns true; each argument reads behind the call as it read before'; 0 by the template 'total and deterministic' (their statements: YtkmlndihdcplfaaTotals.lean).
  GIVEN WITH THE SEED: the statements are not yours to turn. If you find one false, say at which input.
  Laid BY PROGRAM, IN A SANDBOX (cutbox-rows.mjs): the forced cells as the released guide's own fill.sh prints them over the translation 988b57aee074c3d2… (all of the seat's roots in one cut). By AI agents, Wed Nov 11 2026. No macro, syntax, notation, axiom, sorry.
-/
import Derived.Test.YtkmlndihdcplfaaChecked
import GoSem.Claim
import GoSem.ClaimJoined
import GoSem.ClaimMapViews
import Derived.JoinedTies
import Derived.KernelRfl
namespace Go.Proofs.Ytkmlndihdcplfaa
/- THE CELL 'sum', in the pinned program and in every row, IS THE sha256 OF THE DUMP (.gsa) THAT YtkmlndihdcplfaaProg.lean LOADS. Nothing in Lean hashes anything: it is a label: what it is worth is what the hold of that sum in a sandbox is worth. -/
noncomputable def Try.pinned : Pinned := { name := "ytkmlndihdcplfaa", sum := "988b57aee074c3d2147e616d07254e2700b955f7b82a4a7698985e69aaf62bf9", checked := Try.checked }
namespace Rows
def none {H : Type} : Left H := { results := [], args := [] }

/-- 'mortmainlaw36.RingSectors': WHATEVER THE INPUT: true; the input reads as it did. -/
def ringSectorsSpec : ChangeSpec := { name := "ringSectors", fn := fun _ => fun
  | [d1, d2, d3] => { results := [.lit (.bool true)], args := [d1, d2, d3] }
  | _ => none }
def ringSectorsRow : OpenClaim := { program := "ytkmlndihdcplfaa", sum := "988b57aee074c3d2147e616d07254e2700b955f7b82a4a7698985e69aaf62bf9", func := "mortmain/mortmainlaw36.RingSectors", spec := "ringSectors", unfollowed := true, recurses := true, apart := false }
def RingSectorsSaid : Prop := ringSectorsRow.holds Try.pinned (OpenSpec.ofChange ringSectorsSpec)

/-- ITS FALSE NEIGHBOUR: 'it returns false'. Refute it at one input. -/
def ringSectorsWrong : ChangeSpec := { name := "ringSectors", fn := fun _ => fun
  | [d1, d2, d3] => { results := [.lit (.bool false)], args := [d1, d2, d3] }
  | _ => none }
def RingSectorsWrongFalsely : Prop := ringSectorsRow.holds Try.pinned (OpenSpec.ofChange ringSectorsWrong)

/-- 'mortmainlaw36.RingDoes': WHATEVER THE INPUT: true; the input reads as it did. -/
def ringDoesSpec : ChangeSpec := { name := "ringDoes", fn := fun _ => fun
  | [d1, d2] => { results := [.lit (.bool true)], args := [d1, d2] }
  | _ => none }
def ringDoesRow : OpenClaim := { program := "ytkmlndihdcplfaa", sum := "988b57aee074c3d2147e616d07254e2700b955f7b82a4a7698985e69aaf62bf9", func := "mortmain/mortmainlaw36.RingDoes", spec := "ringDoes", unfollowed := true, recurses := true, apart := false }
def RingDoesSaid : Prop := ringDoesRow.holds Try.pinned (OpenSpec.ofChange ringDoesSpec)

/-- ITS FALSE NEIGHBOUR: 'it returns false'. Refute it at one input. -/
def ringDoesWrong : ChangeSpec := { name := "ringDoes", fn := fun _ => fun
  | [d1, d2] => { results := [.lit (.bool false)], args := [d1, d2] }
  | _ => none }
def RingDoesWrongFalsely : Prop := ringDoesRow.holds Try.pinned (OpenSpec.ofChange ringDoesWrong)

/-- 'mortmainlaw36.RingTurns': WHATEVER THE INPUT: true; the input reads as it did. -/
def ringTurnsSpec : ChangeSpec := { name := "ringTurns", fn := fun _ => fun
  | [d1, d2] => { results := [.lit (.bool true)], args := [d1, d2] }
  | _ => none }
def ringTurnsRow : OpenClaim := { program := "ytkmlndihdcplfaa", sum := "988b57aee074c3d2147e616d07254e2700b955f7b82a4a7698985e69aaf62bf9", func := "mortmain/mortmainlaw36.RingTurns", spec := "ringTurns", unfollowed := true, recurses := true, apart := false }
def RingTurnsSaid : Prop := ringTurnsRow.holds Try.pinned (OpenSpec.ofChange ringTurnsSpec)

/-- ITS FALSE NEIGHBOUR: 'it returns false'. Refute it at one input. -/
def ringTurnsWrong : ChangeSpec := { name := "ringTurns", fn := fun _ => fun
  | [d1, d2] => { results := [.lit (.bool false)], args := [d1, d2] }
  | _ => none }
def RingTurnsWrongFalsely : Prop := ringTurnsRow.holds Try.pinned (OpenSpec.ofChange ringTurnsWrong)

/-- 'mortmainlaw36.RingCrashes': WHATEVER THE INPUT: true; the input reads as it did. -/
def ringCrashesSpec : ChangeSpec := { name := "ringCrashes", fn := fun _ => fun
  | [d1, d2] => { results := [.lit (.bool true)], args := [d1, d2] }
  | _ => none }
def ringCrashesRow : OpenClaim := { program := "ytkmlndihdcplfaa", sum := "988b57aee074c3d2147e616d07254e2700b955f7b82a4a7698985e69aaf62bf9", func := "mortmain/mortmainlaw36.RingCrashes", spec := "ringCrashes", unfollowed := true, recurses := true, apart := false }
def RingCrashesSaid : Prop := ringCrashesRow.holds Try.pinned (OpenSpec.ofChange ringCrashesSpec)

/-- ITS FALSE NEIGHBOUR: 'it returns false'. Refute it at one input. -/
def ringCrashesWrong : ChangeSpec := { name := "ringCrashes", fn := fun _ => fun
  | [d1, d2] => { results := [.lit (.bool false)], args := [d1, d2] }
  | _ => none }
def RingCrashesWrongFalsely : Prop := ringCrashesRow.holds Try.pinned (OpenSpec.ofChange ringCrashesWrong)

/-- 'mortmainlaw09.JournalHeads': WHATEVER THE INPUT: true; the input reads as it did. -/
def journalHeadsSpec : ChangeSpec := { name := "journalHeads", fn := fun _ => fun
  | [d1, d2] => { results := [.lit (.bool true)], args := [d1, d2] }
  | _ => none }
def journalHeadsRow : OpenClaim := { program := "ytkmlndihdcplfaa", sum := "988b57aee074c3d2147e616d07254e2700b955f7b82a4a7698985e69aaf62bf9", func := "mortmain/mortmainlaw09.JournalHeads", spec := "journalHeads", unfollowed := true, recurses := true, apart := false }
def JournalHeadsSaid : Prop := journalHeadsRow.holds Try.pinned (OpenSpec.ofChange journalHeadsSpec)

/-- ITS FALSE NEIGHBOUR: 'it returns false'. Refute it at one input. -/
def journalHeadsWrong : ChangeSpec := { name := "journalHeads", fn := fun _ => fun
  | [d1, d2] => { results := [.lit (.bool false)], args := [d1, d2] }
  | _ => none }
def JournalHeadsWrongFalsely : Prop := journalHeadsRow.holds Try.pinned (OpenSpec.ofChange journalHeadsWrong)

/-- 'mortmainlaw09.JournalCosts': WHATEVER THE INPUT: true; the input reads as it did. -/
def journalCostsSpec : ChangeSpec := { name := "journalCosts", fn := fun _ => fun
  | [d] => { results := [.lit (.bool true)], args := [d] }
  | _ => none }
def journalCostsRow : OpenClaim := { program := "ytkmlndihdcplfaa", sum := "988b57aee074c3d2147e616d07254e2700b955f7b82a4a7698985e69aaf62bf9", func := "mortmain/mortmainlaw09.JournalCosts", spec := "journalCosts", unfollowed := true, recurses := true, apart := false }
def JournalCostsSaid : Prop := journalCostsRow.holds Try.pinned (OpenSpec.ofChange journalCostsSpec)

/-- ITS FALSE NEIGHBOUR: 'it returns false'. Refute it at one input. -/
def journalCostsWrong : ChangeSpec := { name := "journalCosts", fn := fun _ => fun
  | [d] => { results := [.lit (.bool false)], args := [d] }
  | _ => none }
def JournalCostsWrongFalsely : Prop := journalCostsRow.holds Try.pinned (OpenSpec.ofChange journalCostsWrong)

/-- 'mortmainlaw09.JournalAtomic': WHATEVER THE INPUT: true; the input reads as it did. -/
def journalAtomicSpec : ChangeSpec := { name := "journalAtomic", fn := fun _ => fun
  | [d1, d2, d3, d4] => { results := [.lit (.bool true)], args := [d1, d2, d3, d4] }
  | _ => none }
def journalAtomicRow : OpenClaim := { program := "ytkmlndihdcplfaa", sum := "988b57aee074c3d2147e616d07254e2700b955f7b82a4a7698985e69aaf62bf9", func := "mortmain/mortmainlaw09.JournalAtomic", spec := "journalAtomic", unfollowed := true, recurses := true, apart := false }
def JournalAtomicSaid : Prop := journalAtomicRow.holds Try.pinned (OpenSpec.ofChange journalAtomicSpec)

/-- ITS FALSE NEIGHBOUR: 'it returns false'. Refute it at one input. -/
def journalAtomicWrong : ChangeSpec := { name := "journalAtomic", fn := fun _ => fun
  | [d1, d2, d3, d4] => { results := [.lit (.bool false)], args := [d1, d2, d3, d4] }
  | _ => none }
def JournalAtomicWrongFalsely : Prop := journalAtomicRow.holds Try.pinned (OpenSpec.ofChange journalAtomicWrong)

/-- 'mortmainlaw09.JournalTwice': WHATEVER THE INPUT: true; the input reads as it did. -/
def journalTwiceSpec : ChangeSpec := { name := "journalTwice", fn := fun _ => fun
  | [d1, d2, d3] => { results := [.lit (.bool true)], args := [d1, d2, d3] }
  | _ => none }
def journalTwiceRow : OpenClaim := { program := "ytkmlndihdcplfaa", sum := "988b57aee074c3d2147e616d07254e2700b955f7b82a4a7698985e69aaf62bf9", func := "mortmain/mortmainlaw09.JournalTwice", spec := "journalTwice", unfollowed := true, recurses := true, apart := false }
def JournalTwiceSaid : Prop := journalTwiceRow.holds Try.pinned (OpenSpec.ofChange journalTwiceSpec)

/-- ITS FALSE NEIGHBOUR: 'it returns false'. Refute it at one input. -/
def journalTwiceWrong : ChangeSpec := { name := "journalTwice", fn := fun _ => fun
  | [d1, d2, d3] => { results := [.lit (.bool false)], args := [d1, d2, d3] }
  | _ => none }
def JournalTwiceWrongFalsely : Prop := journalTwiceRow.holds Try.pinned (OpenSpec.ofChange journalTwiceWrong)

/-- 'mortmainlaw38.DeltaMakes': WHATEVER THE INPUT: true; the input reads as it did. -/
def deltaMakesSpec : ChangeSpec := { name := "deltaMakes", fn := fun _ => fun
  | [d1, d2, d3] => { results := [.lit (.bool true)], args := [d1, d2, d3] }
  | _ => none }
def deltaMakesRow : OpenClaim := { program := "ytkmlndihdcplfaa", sum := "988b57aee074c3d2147e616d07254e2700b955f7b82a4a7698985e69aaf62bf9", func := "mortmain/mortmainlaw38.DeltaMakes", spec := "deltaMakes", unfollowed := true, recurses := true, apart := false }
def DeltaMakesSaid : Prop := deltaMakesRow.holds Try.pinned (OpenSpec.ofChange deltaMakesSpec)

/-- ITS FALSE NEIGHBOUR: 'it returns false'. Refute it at one input. -/
def deltaMakesWrong : ChangeSpec := { name := "deltaMakes", fn := fun _ => fun
  | [d1, d2, d3] => { results := [.lit (.bool false)], args := [d1, d2, d3] }
  | _ => none }
def DeltaMakesWrongFalsely : Prop := deltaMakesRow.holds Try.pinned (OpenSpec.ofChange deltaMakesWrong)

/-- 'mortmainlaw38.DeltaJoins': WHATEVER THE INPUT: true; the input reads as it did. -/
def deltaJoinsSpec : ChangeSpec := { name := "deltaJoins", fn := fun _ => fun
  | [d1, d2, d3] => { results := [.lit (.bool true)], args := [d1, d2, d3] }
  | _ => none }
def deltaJoinsRow : OpenClaim := { program := "ytkmlndihdcplfaa", sum := "988b57aee074c3d2147e616d07254e2700b955f7b82a4a7698985e69aaf62bf9", func := "mortmain/mortmainlaw38.DeltaJoins", spec := "deltaJoins", unfollowed := true, recurses := true, apart := false }
def DeltaJoinsSaid : Prop := deltaJoinsRow.holds Try.pinned (OpenSpec.ofChange deltaJoinsSpec)

/-- ITS FALSE NEIGHBOUR: 'it returns false'. Refute it at one input. -/
def deltaJoinsWrong : ChangeSpec := { name := "deltaJoins", fn := fun _ => fun
  | [d1, d2, d3] => { results := [.lit (.bool false)], args := [d1, d2, d3] }
  | _ => none }
def DeltaJoinsWrongFalsely : Prop := deltaJoinsRow.holds Try.pinned (OpenSpec.ofChange deltaJoinsWrong)

/-- 'mortmainlaw38.DeltaPacks': WHATEVER THE INPUT: true; the input reads as it did. -/
def deltaPacksSpec : ChangeSpec := { name := "deltaPacks", fn := fun _ => fun
  | [d1, d2] => { results := [.lit (.bool true)], args := [d1, d2] }
  | _ => none }
def deltaPacksRow : OpenClaim := { program := "ytkmlndihdcplfaa", sum := "988b57aee074c3d2147e616d07254e2700b955f7b82a4a7698985e69aaf62bf9", func := "mortmain/mortmainlaw38.DeltaPacks", spec := "deltaPacks", unfollowed := true, recurses := true, apart := false }
def DeltaPacksSaid : Prop := deltaPacksRow.holds Try.pinned (OpenSpec.ofChange deltaPacksSpec)

/-- ITS FALSE NEIGHBOUR: 'it returns false'. Refute it at one input. -/
def deltaPacksWrong : ChangeSpec := { name := "deltaPacks", fn := fun _ => fun
  | [d1, d2] => { results := [.lit (.bool false)], args := [d1, d2] }
  | _ => none }
def DeltaPacksWrongFalsely : Prop := deltaPacksRow.holds Try.pinned (OpenSpec.ofChange deltaPacksWrong)

/-- 'mortmainlaw38.DeltaWrites': WHATEVER THE INPUT: true; the input reads as it did. -/
def deltaWritesSpec : ChangeSpec := { name := "deltaWrites", fn := fun _ => fun
  | [d1, d2, d3] => { results := [.lit (.bool true)], args := [d1, d2, d3] }
  | _ => none }
def deltaWritesRow : OpenClaim := { program := "ytkmlndihdcplfaa", sum := "988b57aee074c3d2147e616d07254e2700b955f7b82a4a7698985e69aaf62bf9", func := "mortmain/mortmainlaw38.DeltaWrites", spec := "deltaWrites", unfollowed := true, recurses := true, apart := false }
def DeltaWritesSaid : Prop := deltaWritesRow.holds Try.pinned (OpenSpec.ofChange deltaWritesSpec)

/-- ITS FALSE NEIGHBOUR: 'it returns false'. Refute it at one input. -/
def deltaWritesWrong : ChangeSpec := { name := "deltaWrites", fn := fun _ => fun
  | [d1, d2, d3] => { results := [.lit (.bool false)], args := [d1, d2, d3] }
  | _ => none }
def DeltaWritesWrongFalsely : Prop := deltaWritesRow.holds Try.pinned (OpenSpec.ofChange deltaWritesWrong)

/- THE SECOND FORM. 'bulk': how many values and letters a reading holds, each counted each time it is reached (what is shared counts as often as it is met; a slice's spare places count too). A statement '..UptoSaid' is the law's where the arguments, and the package variables that the reading takes, are together of bulk at most 1048576: NARROWER than '..Said'. Prove '..Said' where nothing that the law and all that it calls make is longer than what came in: it says more and counts as full. Else prove '..UptoSaid'. A law counts once. -/
mutual
def uptoBulk {H : Type} : DataW H → Nat
  | .lit (.string bytes) => bytes.length + 1
  | .lit _ => 1
  | .nil => 1
  | .ptr d => uptoBulk d + 1
  | .slice elems spare => uptoBulkAll elems + uptoBulkAll spare + 1
  | .agg parts => uptoBulkAll parts + 1
  | .iface _ d => uptoBulk d + 1
  | .map entries => uptoBulkEntries entries + 1
  | .held _ => 1
def uptoBulkAll {H : Type} : List (DataW H) → Nat
  | [] => 0
  | d :: r => uptoBulk d + uptoBulkAll r
def uptoBulkEntries {H : Type} : List (Lit × DataW H) → Nat
  | [] => 0
  | x :: r => uptoBulkEntry x + uptoBulkEntries r
def uptoBulkEntry {H : Type} : Lit × DataW H → Nat
  | (.string bytes, d) => bytes.length + uptoBulk d + 1
  | (_, d) => uptoBulk d + 1
 end
def uptoSmall : (H : Type) → List (DataW H) → Bool := fun _ ds => decide (uptoBulkAll ds ≤ 1048576)
def OpenSpec.upto (s : _root_.Go.ChangeSpec) : _root_.Go.OpenSpec := { _root_.Go.OpenSpec.ofChange s with cond := some uptoSmall }

/-- 'mortmainlaw36.RingSectors', WHERE WHAT IT READS IS OF BULK AT MOST 1048576: true; the input reads as it did. -/
def ringSectorsUptoRow : OpenClaim := { program := "ytkmlndihdcplfaa", sum := "988b57aee074c3d2147e616d07254e2700b955f7b82a4a7698985e69aaf62bf9", func := "mortmain/mortmainlaw36.RingSectors", spec := "ringSectors", unfollowed := true, recurses := true, apart := false, narrowed := true }
def RingSectorsUptoSaid : Prop := ringSectorsUptoRow.holds Try.pinned (OpenSpec.upto ringSectorsSpec)

/-- 'mortmainlaw36.RingDoes', WHERE WHAT IT READS IS OF BULK AT MOST 1048576: true; the input reads as it did. -/
def ringDoesUptoRow : OpenClaim := { program := "ytkmlndihdcplfaa", sum := "988b57aee074c3d2147e616d07254e2700b955f7b82a4a7698985e69aaf62bf9", func := "mortmain/mortmainlaw36.RingDoes", spec := "ringDoes", unfollowed := true, recurses := true, apart := false, narrowed := true }
def RingDoesUptoSaid : Prop := ringDoesUptoRow.holds Try.pinned (OpenSpec.upto ringDoesSpec)

/-- 'mortmainlaw36.RingTurns', WHERE WHAT IT READS IS OF BULK AT MOST 1048576: true; the input reads as it did. -/
def ringTurnsUptoRow : OpenClaim := { program := "ytkmlndihdcplfaa", sum := "988b57aee074c3d2147e616d07254e2700b955f7b82a4a7698985e69aaf62bf9", func := "mortmain/mortmainlaw36.RingTurns", spec := "ringTurns", unfollowed := true, recurses := true, apart := false, narrowed := true }
def RingTurnsUptoSaid : Prop := ringTurnsUptoRow.holds Try.pinned (OpenSpec.upto ringTurnsSpec)

/-- 'mortmainlaw36.RingCrashes', WHERE WHAT IT READS IS OF BULK AT MOST 1048576: true; the input reads as it did. -/
def ringCrashesUptoRow : OpenClaim := { program := "ytkmlndihdcplfaa", sum := "988b57aee074c3d2147e616d07254e2700b955f7b82a4a7698985e69aaf62bf9", func := "mortmain/mortmainlaw36.RingCrashes", spec := "ringCrashes", unfollowed := true, recurses := true, apart := false, narrowed := true }
def RingCrashesUptoSaid : Prop := ringCrashesUptoRow.holds Try.pinned (OpenSpec.upto ringCrashesSpec)

/-- 'mortmainlaw09.JournalHeads', WHERE WHAT IT READS IS OF BULK AT MOST 1048576: true; the input reads as it did. -/
def journalHeadsUptoRow : OpenClaim := { program := "ytkmlndihdcplfaa", sum := "988b57aee074c3d2147e616d07254e2700b955f7b82a4a7698985e69aaf62bf9", func := "mortmain/mortmainlaw09.JournalHeads", spec := "journalHeads", unfollowed := true, recurses := true, apart := false, narrowed := true }
def JournalHeadsUptoSaid : Prop := journalHeadsUptoRow.holds Try.pinned (OpenSpec.upto journalHeadsSpec)

/-- 'mortmainlaw09.JournalCosts', WHERE WHAT IT READS IS OF BULK AT MOST 1048576: true; the input reads as it did. -/
def journalCostsUptoRow : OpenClaim := { program := "ytkmlndihdcplfaa", sum := "988b57aee074c3d2147e616d07254e2700b955f7b82a4a7698985e69aaf62bf9", func := "mortmain/mortmainlaw09.JournalCosts", spec := "journalCosts", unfollowed := true, recurses := true, apart := false, narrowed := true }
def JournalCostsUptoSaid : Prop := journalCostsUptoRow.holds Try.pinned (OpenSpec.upto journalCostsSpec)

/-- 'mortmainlaw09.JournalAtomic', WHERE WHAT IT READS IS OF BULK AT MOST 1048576: true; the input reads as it did. -/
def journalAtomicUptoRow : OpenClaim := { program := "ytkmlndihdcplfaa", sum := "988b57aee074c3d2147e616d07254e2700b955f7b82a4a7698985e69aaf62bf9", func := "mortmain/mortmainlaw09.JournalAtomic", spec := "journalAtomic", unfollowed := true, recurses := true, apart := false, narrowed := true }
def JournalAtomicUptoSaid : Prop := journalAtomicUptoRow.holds Try.pinned (OpenSpec.upto journalAtomicSpec)

/-- 'mortmainlaw09.JournalTwice', WHERE WHAT IT READS IS OF BULK AT MOST 1048576: true; the input reads as it did. -/
def journalTwiceUptoRow : OpenClaim := { program := "ytkmlndihdcplfaa", sum := "988b57aee074c3d2147e616d07254e2700b955f7b82a4a7698985e69aaf62bf9", func := "mortmain/mortmainlaw09.JournalTwice", spec := "journalTwice", unfollowed := true, recurses := true, apart := false, narrowed := true }
def JournalTwiceUptoSaid : Prop := journalTwiceUptoRow.holds Try.pinned (OpenSpec.upto journalTwiceSpec)

/-- 'mortmainlaw38.DeltaMakes', WHERE WHAT IT READS IS OF BULK AT MOST 1048576: true; the input reads as it did. -/
def deltaMakesUptoRow : OpenClaim := { program := "ytkmlndihdcplfaa", sum := "988b57aee074c3d2147e616d07254e2700b955f7b82a4a7698985e69aaf62bf9", func := "mortmain/mortmainlaw38.DeltaMakes", spec := "deltaMakes", unfollowed := true, recurses := true, apart := false, narrowed := true }
def DeltaMakesUptoSaid : Prop := deltaMakesUptoRow.holds Try.pinned (OpenSpec.upto deltaMakesSpec)

/-- 'mortmainlaw38.DeltaJoins', WHERE WHAT IT READS IS OF BULK AT MOST 1048576: true; the input reads as it did. -/
def deltaJoinsUptoRow : OpenClaim := { program := "ytkmlndihdcplfaa", sum := "988b57aee074c3d2147e616d07254e2700b955f7b82a4a7698985e69aaf62bf9", func := "mortmain/mortmainlaw38.DeltaJoins", spec := "deltaJoins", unfollowed := true, recurses := true, apart := false, narrowed := true }
def DeltaJoinsUptoSaid : Prop := deltaJoinsUptoRow.holds Try.pinned (OpenSpec.upto deltaJoinsSpec)

/-- 'mortmainlaw38.DeltaPacks', WHERE WHAT IT READS IS OF BULK AT MOST 1048576: true; the input reads as it did. -/
def deltaPacksUptoRow : OpenClaim := { program := "ytkmlndihdcplfaa", sum := "988b57aee074c3d2147e616d07254e2700b955f7b82a4a7698985e69aaf62bf9", func := "mortmain/mortmainlaw38.DeltaPacks", spec := "deltaPacks", unfollowed := true, recurses := true, apart := false, narrowed := true }
def DeltaPacksUptoSaid : Prop := deltaPacksUptoRow.holds Try.pinned (OpenSpec.upto deltaPacksSpec)

/-- 'mortmainlaw38.DeltaWrites', WHERE WHAT IT READS IS OF BULK AT MOST 1048576: true; the input reads as it did. -/
def deltaWritesUptoRow : OpenClaim := { program := "ytkmlndihdcplfaa", sum := "988b57aee074c3d2147e616d07254e2700b955f7b82a4a7698985e69aaf62bf9", func := "mortmain/mortmainlaw38.DeltaWrites", spec := "deltaWrites", unfollowed := true, recurses := true, apart := false, narrowed := true }
def DeltaWritesUptoSaid : Prop := deltaWritesUptoRow.holds Try.pinned (OpenSpec.upto deltaWritesSpec)

end Rows
end Go.Proofs.Ytkmlndihdcplfaa
