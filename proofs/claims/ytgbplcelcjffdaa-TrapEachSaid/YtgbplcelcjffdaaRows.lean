/-
  No cell of these rows narrows 'for every input' (looked for: loops, veiled, ifaces, maps, wideKeys, modest, calm, conditions, laid).
  DERIVED. THE GIVEN ROWS OF THIS SEAT. 10 by the template 'for every input the law returns true; each argument reads behind the call as it read before'; 0 by the template 'total and deterministic' (their statements: YtgbplcelcjffdaaTotals.lean).
  GIVEN WITH THE SEED: the statements are not yours to turn. If you find one false, say at which input.
  Laid BY PROGRAM, IN A SANDBOX (cutbox-rows.mjs): the forced cells as the released guide's own fill.sh prints them over the translation ff78c1025d4057cd… (all of the seat's roots in one cut). By AI agents, Wed Nov 11 2026. No macro, syntax, notation, axiom, sorry.
-/
import Derived.Test.YtgbplcelcjffdaaChecked
import GoSem.Claim
import GoSem.ClaimJoined
import GoSem.ClaimMapViews
import Derived.JoinedTies
import Derived.KernelRfl
namespace Go.Proofs.Ytgbplcelcjffdaa
/- THE CELL 'sum', in the pinned program and in every row, IS THE sha256 OF THE DUMP (.gsa) THAT YtgbplcelcjffdaaProg.lean LOADS. Nothing in Lean hashes anything: it is a label: what it is worth is what the hold of that sum in a sandbox is worth. -/
noncomputable def Try.pinned : Pinned := { name := "ytgbplcelcjffdaa", sum := "ff78c1025d4057cd050beaa8f472c9c59369481932d01bfe68e13d2d501a10c7", checked := Try.checked }
namespace Rows
def none {H : Type} : Left H := { results := [], args := [] }

/-- 'mortmainlaw02.CrcSums': WHATEVER THE INPUT: true; the input reads as it did. -/
def crcSumsSpec : ChangeSpec := { name := "crcSums", fn := fun _ => fun
  | [d] => { results := [.lit (.bool true)], args := [d] }
  | _ => none }
def crcSumsRow : OpenClaim := { program := "ytgbplcelcjffdaa", sum := "ff78c1025d4057cd050beaa8f472c9c59369481932d01bfe68e13d2d501a10c7", func := "mortmain/mortmainlaw02.CrcSums", spec := "crcSums", apart := false }
def CrcSumsSaid : Prop := crcSumsRow.holds Try.pinned (OpenSpec.ofChange crcSumsSpec)

/-- ITS FALSE NEIGHBOUR: 'it returns false'. Refute it at one input. -/
def crcSumsWrong : ChangeSpec := { name := "crcSums", fn := fun _ => fun
  | [d] => { results := [.lit (.bool false)], args := [d] }
  | _ => none }
def CrcSumsWrongFalsely : Prop := crcSumsRow.holds Try.pinned (OpenSpec.ofChange crcSumsWrong)

/-- 'mortmainlaw02.CrcParts': WHATEVER THE INPUT: true; the input reads as it did. -/
def crcPartsSpec : ChangeSpec := { name := "crcParts", fn := fun _ => fun
  | [d1, d2] => { results := [.lit (.bool true)], args := [d1, d2] }
  | _ => none }
def crcPartsRow : OpenClaim := { program := "ytgbplcelcjffdaa", sum := "ff78c1025d4057cd050beaa8f472c9c59369481932d01bfe68e13d2d501a10c7", func := "mortmain/mortmainlaw02.CrcParts", spec := "crcParts", apart := false }
def CrcPartsSaid : Prop := crcPartsRow.holds Try.pinned (OpenSpec.ofChange crcPartsSpec)

/-- ITS FALSE NEIGHBOUR: 'it returns false'. Refute it at one input. -/
def crcPartsWrong : ChangeSpec := { name := "crcParts", fn := fun _ => fun
  | [d1, d2] => { results := [.lit (.bool false)], args := [d1, d2] }
  | _ => none }
def CrcPartsWrongFalsely : Prop := crcPartsRow.holds Try.pinned (OpenSpec.ofChange crcPartsWrong)

/-- 'mortmainlaw02.CrcHolds': WHATEVER THE INPUT: true; the input reads as it did. -/
def crcHoldsSpec : ChangeSpec := { name := "crcHolds", fn := fun _ => fun
  | [d] => { results := [.lit (.bool true)], args := [d] }
  | _ => none }
def crcHoldsRow : OpenClaim := { program := "ytgbplcelcjffdaa", sum := "ff78c1025d4057cd050beaa8f472c9c59369481932d01bfe68e13d2d501a10c7", func := "mortmain/mortmainlaw02.CrcHolds", spec := "crcHolds", recurses := true, apart := false }
def CrcHoldsSaid : Prop := crcHoldsRow.holds Try.pinned (OpenSpec.ofChange crcHoldsSpec)

/-- ITS FALSE NEIGHBOUR: 'it returns false'. Refute it at one input. -/
def crcHoldsWrong : ChangeSpec := { name := "crcHolds", fn := fun _ => fun
  | [d] => { results := [.lit (.bool false)], args := [d] }
  | _ => none }
def CrcHoldsWrongFalsely : Prop := crcHoldsRow.holds Try.pinned (OpenSpec.ofChange crcHoldsWrong)

/-- 'mortmainlaw02.CrcTurns': WHATEVER THE INPUT: true; the input reads as it did. -/
def crcTurnsSpec : ChangeSpec := { name := "crcTurns", fn := fun _ => fun
  | [d1, d2, d3] => { results := [.lit (.bool true)], args := [d1, d2, d3] }
  | _ => none }
def crcTurnsRow : OpenClaim := { program := "ytgbplcelcjffdaa", sum := "ff78c1025d4057cd050beaa8f472c9c59369481932d01bfe68e13d2d501a10c7", func := "mortmain/mortmainlaw02.CrcTurns", spec := "crcTurns", apart := false }
def CrcTurnsSaid : Prop := crcTurnsRow.holds Try.pinned (OpenSpec.ofChange crcTurnsSpec)

/-- ITS FALSE NEIGHBOUR: 'it returns false'. Refute it at one input. -/
def crcTurnsWrong : ChangeSpec := { name := "crcTurns", fn := fun _ => fun
  | [d1, d2, d3] => { results := [.lit (.bool false)], args := [d1, d2, d3] }
  | _ => none }
def CrcTurnsWrongFalsely : Prop := crcTurnsRow.holds Try.pinned (OpenSpec.ofChange crcTurnsWrong)

/-- 'mortmainlaw05.TrapCatches': WHATEVER THE INPUT: true; the input reads as it did. -/
def trapCatchesSpec : ChangeSpec := { name := "trapCatches", fn := fun _ => fun
  | [d1, d2] => { results := [.lit (.bool true)], args := [d1, d2] }
  | _ => none }
def trapCatchesRow : OpenClaim := { program := "ytgbplcelcjffdaa", sum := "ff78c1025d4057cd050beaa8f472c9c59369481932d01bfe68e13d2d501a10c7", func := "mortmain/mortmainlaw05.TrapCatches", spec := "trapCatches", unfollowed := true, recurses := true, apart := false }
def TrapCatchesSaid : Prop := trapCatchesRow.holds Try.pinned (OpenSpec.ofChange trapCatchesSpec)

/-- ITS FALSE NEIGHBOUR: 'it returns false'. Refute it at one input. -/
def trapCatchesWrong : ChangeSpec := { name := "trapCatches", fn := fun _ => fun
  | [d1, d2] => { results := [.lit (.bool false)], args := [d1, d2] }
  | _ => none }
def TrapCatchesWrongFalsely : Prop := trapCatchesRow.holds Try.pinned (OpenSpec.ofChange trapCatchesWrong)

/-- 'mortmainlaw05.TrapEach': WHATEVER THE INPUT: true; the input reads as it did. -/
def trapEachSpec : ChangeSpec := { name := "trapEach", fn := fun _ => fun
  | [d] => { results := [.lit (.bool true)], args := [d] }
  | _ => none }
def trapEachRow : OpenClaim := { program := "ytgbplcelcjffdaa", sum := "ff78c1025d4057cd050beaa8f472c9c59369481932d01bfe68e13d2d501a10c7", func := "mortmain/mortmainlaw05.TrapEach", spec := "trapEach", unfollowed := true, recurses := true, apart := false }
def TrapEachSaid : Prop := trapEachRow.holds Try.pinned (OpenSpec.ofChange trapEachSpec)

/-- ITS FALSE NEIGHBOUR: 'it returns false'. Refute it at one input. -/
def trapEachWrong : ChangeSpec := { name := "trapEach", fn := fun _ => fun
  | [d] => { results := [.lit (.bool false)], args := [d] }
  | _ => none }
def TrapEachWrongFalsely : Prop := trapEachRow.holds Try.pinned (OpenSpec.ofChange trapEachWrong)

/-- 'mortmainlaw05.TrapNests': WHATEVER THE INPUT: true; the input reads as it did. -/
def trapNestsSpec : ChangeSpec := { name := "trapNests", fn := fun _ => fun
  | [d1, d2] => { results := [.lit (.bool true)], args := [d1, d2] }
  | _ => none }
def trapNestsRow : OpenClaim := { program := "ytgbplcelcjffdaa", sum := "ff78c1025d4057cd050beaa8f472c9c59369481932d01bfe68e13d2d501a10c7", func := "mortmain/mortmainlaw05.TrapNests", spec := "trapNests", unfollowed := true, recurses := true, apart := false }
def TrapNestsSaid : Prop := trapNestsRow.holds Try.pinned (OpenSpec.ofChange trapNestsSpec)

/-- ITS FALSE NEIGHBOUR: 'it returns false'. Refute it at one input. -/
def trapNestsWrong : ChangeSpec := { name := "trapNests", fn := fun _ => fun
  | [d1, d2] => { results := [.lit (.bool false)], args := [d1, d2] }
  | _ => none }
def TrapNestsWrongFalsely : Prop := trapNestsRow.holds Try.pinned (OpenSpec.ofChange trapNestsWrong)

/-- 'mortmainlaw07.PlanParts': WHATEVER THE INPUT: true; the input reads as it did. -/
def planPartsSpec : ChangeSpec := { name := "planParts", fn := fun _ => fun
  | [d1, d2] => { results := [.lit (.bool true)], args := [d1, d2] }
  | _ => none }
def planPartsRow : OpenClaim := { program := "ytgbplcelcjffdaa", sum := "ff78c1025d4057cd050beaa8f472c9c59369481932d01bfe68e13d2d501a10c7", func := "mortmain/mortmainlaw07.PlanParts", spec := "planParts", apart := false }
def PlanPartsSaid : Prop := planPartsRow.holds Try.pinned (OpenSpec.ofChange planPartsSpec)

/-- ITS FALSE NEIGHBOUR: 'it returns false'. Refute it at one input. -/
def planPartsWrong : ChangeSpec := { name := "planParts", fn := fun _ => fun
  | [d1, d2] => { results := [.lit (.bool false)], args := [d1, d2] }
  | _ => none }
def PlanPartsWrongFalsely : Prop := planPartsRow.holds Try.pinned (OpenSpec.ofChange planPartsWrong)

/-- 'mortmainlaw07.PlanRoom': WHATEVER THE INPUT: true; the input reads as it did. -/
def planRoomSpec : ChangeSpec := { name := "planRoom", fn := fun _ => fun
  | [d1, d2] => { results := [.lit (.bool true)], args := [d1, d2] }
  | _ => none }
def planRoomRow : OpenClaim := { program := "ytgbplcelcjffdaa", sum := "ff78c1025d4057cd050beaa8f472c9c59369481932d01bfe68e13d2d501a10c7", func := "mortmain/mortmainlaw07.PlanRoom", spec := "planRoom", apart := false }
def PlanRoomSaid : Prop := planRoomRow.holds Try.pinned (OpenSpec.ofChange planRoomSpec)

/-- ITS FALSE NEIGHBOUR: 'it returns false'. Refute it at one input. -/
def planRoomWrong : ChangeSpec := { name := "planRoom", fn := fun _ => fun
  | [d1, d2] => { results := [.lit (.bool false)], args := [d1, d2] }
  | _ => none }
def PlanRoomWrongFalsely : Prop := planRoomRow.holds Try.pinned (OpenSpec.ofChange planRoomWrong)

/-- 'mortmainlaw07.PlanHomes': WHATEVER THE INPUT: true; the input reads as it did. -/
def planHomesSpec : ChangeSpec := { name := "planHomes", fn := fun _ => fun
  | [d1, d2] => { results := [.lit (.bool true)], args := [d1, d2] }
  | _ => none }
def planHomesRow : OpenClaim := { program := "ytgbplcelcjffdaa", sum := "ff78c1025d4057cd050beaa8f472c9c59369481932d01bfe68e13d2d501a10c7", func := "mortmain/mortmainlaw07.PlanHomes", spec := "planHomes", apart := false }
def PlanHomesSaid : Prop := planHomesRow.holds Try.pinned (OpenSpec.ofChange planHomesSpec)

/-- ITS FALSE NEIGHBOUR: 'it returns false'. Refute it at one input. -/
def planHomesWrong : ChangeSpec := { name := "planHomes", fn := fun _ => fun
  | [d1, d2] => { results := [.lit (.bool false)], args := [d1, d2] }
  | _ => none }
def PlanHomesWrongFalsely : Prop := planHomesRow.holds Try.pinned (OpenSpec.ofChange planHomesWrong)

/- THE SECOND FORM. 'bulk': how many values and letters a reading holds, each counted each time it is reached (what is shared counts as often as it is met; a slice's spare places count too). A statement '..UptoSaid' is the law's where the arguments, and the package variables that the reading takes, are together of bulk at most 1048576: NARROWER than '..Said'. Prove '..Said' where nothing that the law and all that it calls make is longer than what came in: it says more and counts as full. Else prove '..UptoSaid'. A law counts once. -/
mutual
def uptoBulk {H : Type} : DataW H → Nat
  | .lit (.string bytes) => bytes.length + 1
  | .lit _ => 1
  | .nil => 1
  | .ptr d => uptoBulk d + 1
  | .slice elems spare => uptoBulkAll elems + uptoBulkAll spare + 1
  | .agg parts => uptoBulkAll parts + 1
  | .iface _ d => uptoBulk d + 1
  | .map entries => uptoBulkEntries entries + 1
  | .held _ => 1
def uptoBulkAll {H : Type} : List (DataW H) → Nat
  | [] => 0
  | d :: r => uptoBulk d + uptoBulkAll r
def uptoBulkEntries {H : Type} : List (Lit × DataW H) → Nat
  | [] => 0
  | x :: r => uptoBulkEntry x + uptoBulkEntries r
def uptoBulkEntry {H : Type} : Lit × DataW H → Nat
  | (.string bytes, d) => bytes.length + uptoBulk d + 1
  | (_, d) => uptoBulk d + 1
 end
def uptoSmall : (H : Type) → List (DataW H) → Bool := fun _ ds => decide (uptoBulkAll ds ≤ 1048576)
def OpenSpec.upto (s : _root_.Go.ChangeSpec) : _root_.Go.OpenSpec := { _root_.Go.OpenSpec.ofChange s with cond := some uptoSmall }

/-- 'mortmainlaw02.CrcSums', WHERE WHAT IT READS IS OF BULK AT MOST 1048576: true; the input reads as it did. -/
def crcSumsUptoRow : OpenClaim := { program := "ytgbplcelcjffdaa", sum := "ff78c1025d4057cd050beaa8f472c9c59369481932d01bfe68e13d2d501a10c7", func := "mortmain/mortmainlaw02.CrcSums", spec := "crcSums", apart := false, narrowed := true }
def CrcSumsUptoSaid : Prop := crcSumsUptoRow.holds Try.pinned (OpenSpec.upto crcSumsSpec)

/-- 'mortmainlaw02.CrcParts', WHERE WHAT IT READS IS OF BULK AT MOST 1048576: true; the input reads as it did. -/
def crcPartsUptoRow : OpenClaim := { program := "ytgbplcelcjffdaa", sum := "ff78c1025d4057cd050beaa8f472c9c59369481932d01bfe68e13d2d501a10c7", func := "mortmain/mortmainlaw02.CrcParts", spec := "crcParts", apart := false, narrowed := true }
def CrcPartsUptoSaid : Prop := crcPartsUptoRow.holds Try.pinned (OpenSpec.upto crcPartsSpec)

/-- 'mortmainlaw02.CrcHolds', WHERE WHAT IT READS IS OF BULK AT MOST 1048576: true; the input reads as it did. -/
def crcHoldsUptoRow : OpenClaim := { program := "ytgbplcelcjffdaa", sum := "ff78c1025d4057cd050beaa8f472c9c59369481932d01bfe68e13d2d501a10c7", func := "mortmain/mortmainlaw02.CrcHolds", spec := "crcHolds", recurses := true, apart := false, narrowed := true }
def CrcHoldsUptoSaid : Prop := crcHoldsUptoRow.holds Try.pinned (OpenSpec.upto crcHoldsSpec)

/-- 'mortmainlaw02.CrcTurns', WHERE WHAT IT READS IS OF BULK AT MOST 1048576: true; the input reads as it did. -/
def crcTurnsUptoRow : OpenClaim := { program := "ytgbplcelcjffdaa", sum := "ff78c1025d4057cd050beaa8f472c9c59369481932d01bfe68e13d2d501a10c7", func := "mortmain/mortmainlaw02.CrcTurns", spec := "crcTurns", apart := false, narrowed := true }
def CrcTurnsUptoSaid : Prop := crcTurnsUptoRow.holds Try.pinned (OpenSpec.upto crcTurnsSpec)

/-- 'mortmainlaw05.TrapCatches', WHERE WHAT IT READS IS OF BULK AT MOST 1048576: true; the input reads as it did. -/
def trapCatchesUptoRow : OpenClaim := { program := "ytgbplcelcjffdaa", sum := "ff78c1025d4057cd050beaa8f472c9c59369481932d01bfe68e13d2d501a10c7", func := "mortmain/mortmainlaw05.TrapCatches", spec := "trapCatches", unfollowed := true, recurses := true, apart := false, narrowed := true }
def TrapCatchesUptoSaid : Prop := trapCatchesUptoRow.holds Try.pinned (OpenSpec.upto trapCatchesSpec)

/-- 'mortmainlaw05.TrapEach', WHERE WHAT IT READS IS OF BULK AT MOST 1048576: true; the input reads as it did. -/
def trapEachUptoRow : OpenClaim := { program := "ytgbplcelcjffdaa", sum := "ff78c1025d4057cd050beaa8f472c9c59369481932d01bfe68e13d2d501a10c7", func := "mortmain/mortmainlaw05.TrapEach", spec := "trapEach", unfollowed := true, recurses := true, apart := false, narrowed := true }
def TrapEachUptoSaid : Prop := trapEachUptoRow.holds Try.pinned (OpenSpec.upto trapEachSpec)

/-- 'mortmainlaw05.TrapNests', WHERE WHAT IT READS IS OF BULK AT MOST 1048576: true; the input reads as it did. -/
def trapNestsUptoRow : OpenClaim := { program := "ytgbplcelcjffdaa", sum := "ff78c1025d4057cd050beaa8f472c9c59369481932d01bfe68e13d2d501a10c7", func := "mortmain/mortmainlaw05.TrapNests", spec := "trapNests", unfollowed := true, recurses := true, apart := false, narrowed := true }
def TrapNestsUptoSaid : Prop := trapNestsUptoRow.holds Try.pinned (OpenSpec.upto trapNestsSpec)

/-- 'mortmainlaw07.PlanParts', WHERE WHAT IT READS IS OF BULK AT MOST 1048576: true; the input reads as it did. -/
def planPartsUptoRow : OpenClaim := { program := "ytgbplcelcjffdaa", sum := "ff78c1025d4057cd050beaa8f472c9c59369481932d01bfe68e13d2d501a10c7", func := "mortmain/mortmainlaw07.PlanParts", spec := "planParts", apart := false, narrowed := true }
def PlanPartsUptoSaid : Prop := planPartsUptoRow.holds Try.pinned (OpenSpec.upto planPartsSpec)

/-- 'mortmainlaw07.PlanRoom', WHERE WHAT IT READS IS OF BULK AT MOST 1048576: true; the input reads as it did. -/
def planRoomUptoRow : OpenClaim := { program := "ytgbplcelcjffdaa", sum := "ff78c1025d4057cd050beaa8f472c9c59369481932d01bfe68e13d2d501a10c7", func := "mortmain/mortmainlaw07.PlanRoom", spec := "planRoom", apart := false, narrowed := true }
def PlanRoomUptoSaid : Prop := planRoomUptoRow.holds Try.pinned (OpenSpec.upto planRoomSpec)

/-- 'mortmainlaw07.PlanHomes', WHERE WHAT IT READS IS OF BULK AT MOST 1048576: true; the input reads as it did. -/
def planHomesUptoRow : OpenClaim := { program := "ytgbplcelcjffdaa", sum := "ff78c1025d4057cd050beaa8f472c9c59369481932d01bfe68e13d2d501a10c7", func := "mortmain/mortmainlaw07.PlanHomes", spec := "planHomes", apart := false, narrowed := true }
def PlanHomesUptoSaid : Prop := planHomesUptoRow.holds Try.pinned (OpenSpec.upto planHomesSpec)

end Rows
end Go.Proofs.Ytgbplcelcjffdaa
