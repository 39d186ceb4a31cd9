/-
  No cell of these rows narrows 'for every input' (looked for: loops, veiled, ifaces, maps, wideKeys, modest, calm, conditions, laid).
  DERIVED. THE GIVEN ROWS OF THIS SEAT. 12 by the template 'for every input the law returns true; each argument reads behind the call as it read before'; 0 by the template 'total and deterministic' (their statements: YtjbiekcldkjgjaaTotals.lean).
  GIVEN WITH THE SEED: the statements are not yours to turn. If you find one false, say at which input.
  Laid BY PROGRAM, IN A SANDBOX (cutbox-rows.mjs): the forced cells as the released guide's own fill.sh prints them over the translation f6e3c0d11dc2979c… (all of the seat's roots in one cut). By AI agents, Wed Nov 11 2026. No macro, syntax, notation, axiom, sorry.
-/
import Derived.Test.YtjbiekcldkjgjaaChecked
import GoSem.Claim
import GoSem.ClaimJoined
import GoSem.ClaimMapViews
import Derived.JoinedTies
import Derived.KernelRfl
namespace Go.Proofs.Ytjbiekcldkjgjaa
/- THE CELL 'sum', in the pinned program and in every row, IS THE sha256 OF THE DUMP (.gsa) THAT YtjbiekcldkjgjaaProg.lean LOADS. Nothing in Lean hashes anything: it is a label: what it is worth is what the hold of that sum in a sandbox is worth. -/
noncomputable def Try.pinned : Pinned := { name := "ytjbiekcldkjgjaa", sum := "f6e3c0d11dc2979cce09e178c7e14714c22305d425181057505df9cae8a277a9", checked := Try.checked }
namespace Rows
def none {H : Type} : Left H := { results := [], args := [] }

/-- 'mortmainlaw32.FilterBits': WHATEVER THE INPUT: true; the input reads as it did. -/
def filterBitsSpec : ChangeSpec := { name := "filterBits", fn := fun _ => fun
  | [d1, d2, d3, d4] => { results := [.lit (.bool true)], args := [d1, d2, d3, d4] }
  | _ => none }
def filterBitsRow : OpenClaim := { program := "ytjbiekcldkjgjaa", sum := "f6e3c0d11dc2979cce09e178c7e14714c22305d425181057505df9cae8a277a9", func := "mortmain/mortmainlaw32.FilterBits", spec := "filterBits", unfollowed := true, recurses := true, apart := false }
def FilterBitsSaid : Prop := filterBitsRow.holds Try.pinned (OpenSpec.ofChange filterBitsSpec)

/-- ITS FALSE NEIGHBOUR: 'it returns false'. Refute it at one input. -/
def filterBitsWrong : ChangeSpec := { name := "filterBits", fn := fun _ => fun
  | [d1, d2, d3, d4] => { results := [.lit (.bool false)], args := [d1, d2, d3, d4] }
  | _ => none }
def FilterBitsWrongFalsely : Prop := filterBitsRow.holds Try.pinned (OpenSpec.ofChange filterBitsWrong)

/-- 'mortmainlaw32.FilterKeeps': WHATEVER THE INPUT: true; the input reads as it did. -/
def filterKeepsSpec : ChangeSpec := { name := "filterKeeps", fn := fun _ => fun
  | [d1, d2] => { results := [.lit (.bool true)], args := [d1, d2] }
  | _ => none }
def filterKeepsRow : OpenClaim := { program := "ytjbiekcldkjgjaa", sum := "f6e3c0d11dc2979cce09e178c7e14714c22305d425181057505df9cae8a277a9", func := "mortmain/mortmainlaw32.FilterKeeps", spec := "filterKeeps", unfollowed := true, recurses := true, apart := false }
def FilterKeepsSaid : Prop := filterKeepsRow.holds Try.pinned (OpenSpec.ofChange filterKeepsSpec)

/-- ITS FALSE NEIGHBOUR: 'it returns false'. Refute it at one input. -/
def filterKeepsWrong : ChangeSpec := { name := "filterKeeps", fn := fun _ => fun
  | [d1, d2] => { results := [.lit (.bool false)], args := [d1, d2] }
  | _ => none }
def FilterKeepsWrongFalsely : Prop := filterKeepsRow.holds Try.pinned (OpenSpec.ofChange filterKeepsWrong)

/-- 'mortmainlaw32.FilterJoins': WHATEVER THE INPUT: true; the input reads as it did. -/
def filterJoinsSpec : ChangeSpec := { name := "filterJoins", fn := fun _ => fun
  | [d1, d2, d3, d4] => { results := [.lit (.bool true)], args := [d1, d2, d3, d4] }
  | _ => none }
def filterJoinsRow : OpenClaim := { program := "ytjbiekcldkjgjaa", sum := "f6e3c0d11dc2979cce09e178c7e14714c22305d425181057505df9cae8a277a9", func := "mortmain/mortmainlaw32.FilterJoins", spec := "filterJoins", unfollowed := true, recurses := true, apart := false }
def FilterJoinsSaid : Prop := filterJoinsRow.holds Try.pinned (OpenSpec.ofChange filterJoinsSpec)

/-- ITS FALSE NEIGHBOUR: 'it returns false'. Refute it at one input. -/
def filterJoinsWrong : ChangeSpec := { name := "filterJoins", fn := fun _ => fun
  | [d1, d2, d3, d4] => { results := [.lit (.bool false)], args := [d1, d2, d3, d4] }
  | _ => none }
def FilterJoinsWrongFalsely : Prop := filterJoinsRow.holds Try.pinned (OpenSpec.ofChange filterJoinsWrong)

/-- 'mortmainlaw25.ReplyPuts': WHATEVER THE INPUT: true; the input reads as it did. -/
def replyPutsSpec : ChangeSpec := { name := "replyPuts", fn := fun _ => fun
  | [d1, d2] => { results := [.lit (.bool true)], args := [d1, d2] }
  | _ => none }
def replyPutsRow : OpenClaim := { program := "ytjbiekcldkjgjaa", sum := "f6e3c0d11dc2979cce09e178c7e14714c22305d425181057505df9cae8a277a9", func := "mortmain/mortmainlaw25.ReplyPuts", spec := "replyPuts", unfollowed := true, recurses := true, apart := false }
def ReplyPutsSaid : Prop := replyPutsRow.holds Try.pinned (OpenSpec.ofChange replyPutsSpec)

/-- ITS FALSE NEIGHBOUR: 'it returns false'. Refute it at one input. -/
def replyPutsWrong : ChangeSpec := { name := "replyPuts", fn := fun _ => fun
  | [d1, d2] => { results := [.lit (.bool false)], args := [d1, d2] }
  | _ => none }
def ReplyPutsWrongFalsely : Prop := replyPutsRow.holds Try.pinned (OpenSpec.ofChange replyPutsWrong)

/-- 'mortmainlaw25.ReplyBack': WHATEVER THE INPUT: true; the input reads as it did. -/
def replyBackSpec : ChangeSpec := { name := "replyBack", fn := fun _ => fun
  | [d1, d2] => { results := [.lit (.bool true)], args := [d1, d2] }
  | _ => none }
def replyBackRow : OpenClaim := { program := "ytjbiekcldkjgjaa", sum := "f6e3c0d11dc2979cce09e178c7e14714c22305d425181057505df9cae8a277a9", func := "mortmain/mortmainlaw25.ReplyBack", spec := "replyBack", unfollowed := true, recurses := true, apart := false }
def ReplyBackSaid : Prop := replyBackRow.holds Try.pinned (OpenSpec.ofChange replyBackSpec)

/-- ITS FALSE NEIGHBOUR: 'it returns false'. Refute it at one input. -/
def replyBackWrong : ChangeSpec := { name := "replyBack", fn := fun _ => fun
  | [d1, d2] => { results := [.lit (.bool false)], args := [d1, d2] }
  | _ => none }
def ReplyBackWrongFalsely : Prop := replyBackRow.holds Try.pinned (OpenSpec.ofChange replyBackWrong)

/-- 'mortmainlaw25.ReplyOne': WHATEVER THE INPUT: true; the input reads as it did. -/
def replyOneSpec : ChangeSpec := { name := "replyOne", fn := fun _ => fun
  | [d] => { results := [.lit (.bool true)], args := [d] }
  | _ => none }
def replyOneRow : OpenClaim := { program := "ytjbiekcldkjgjaa", sum := "f6e3c0d11dc2979cce09e178c7e14714c22305d425181057505df9cae8a277a9", func := "mortmain/mortmainlaw25.ReplyOne", spec := "replyOne", unfollowed := true, recurses := true, apart := false }
def ReplyOneSaid : Prop := replyOneRow.holds Try.pinned (OpenSpec.ofChange replyOneSpec)

/-- ITS FALSE NEIGHBOUR: 'it returns false'. Refute it at one input. -/
def replyOneWrong : ChangeSpec := { name := "replyOne", fn := fun _ => fun
  | [d] => { results := [.lit (.bool false)], args := [d] }
  | _ => none }
def ReplyOneWrongFalsely : Prop := replyOneRow.holds Try.pinned (OpenSpec.ofChange replyOneWrong)

/-- 'mortmainlaw06.DiskDoes': WHATEVER THE INPUT: true; the input reads as it did. -/
def diskDoesSpec : ChangeSpec := { name := "diskDoes", fn := fun _ => fun
  | [d1, d2] => { results := [.lit (.bool true)], args := [d1, d2] }
  | _ => none }
def diskDoesRow : OpenClaim := { program := "ytjbiekcldkjgjaa", sum := "f6e3c0d11dc2979cce09e178c7e14714c22305d425181057505df9cae8a277a9", func := "mortmain/mortmainlaw06.DiskDoes", spec := "diskDoes", unfollowed := true, recurses := true, apart := false }
def DiskDoesSaid : Prop := diskDoesRow.holds Try.pinned (OpenSpec.ofChange diskDoesSpec)

/-- ITS FALSE NEIGHBOUR: 'it returns false'. Refute it at one input. -/
def diskDoesWrong : ChangeSpec := { name := "diskDoes", fn := fun _ => fun
  | [d1, d2] => { results := [.lit (.bool false)], args := [d1, d2] }
  | _ => none }
def DiskDoesWrongFalsely : Prop := diskDoesRow.holds Try.pinned (OpenSpec.ofChange diskDoesWrong)

/-- 'mortmainlaw06.DiskLasts': WHATEVER THE INPUT: true; the input reads as it did. -/
def diskLastsSpec : ChangeSpec := { name := "diskLasts", fn := fun _ => fun
  | [d1, d2] => { results := [.lit (.bool true)], args := [d1, d2] }
  | _ => none }
def diskLastsRow : OpenClaim := { program := "ytjbiekcldkjgjaa", sum := "f6e3c0d11dc2979cce09e178c7e14714c22305d425181057505df9cae8a277a9", func := "mortmain/mortmainlaw06.DiskLasts", spec := "diskLasts", unfollowed := true, recurses := true, apart := false }
def DiskLastsSaid : Prop := diskLastsRow.holds Try.pinned (OpenSpec.ofChange diskLastsSpec)

/-- ITS FALSE NEIGHBOUR: 'it returns false'. Refute it at one input. -/
def diskLastsWrong : ChangeSpec := { name := "diskLasts", fn := fun _ => fun
  | [d1, d2] => { results := [.lit (.bool false)], args := [d1, d2] }
  | _ => none }
def DiskLastsWrongFalsely : Prop := diskLastsRow.holds Try.pinned (OpenSpec.ofChange diskLastsWrong)

/-- 'mortmainlaw06.DiskTwins': WHATEVER THE INPUT: true; the input reads as it did. -/
def diskTwinsSpec : ChangeSpec := { name := "diskTwins", fn := fun _ => fun
  | [d1, d2] => { results := [.lit (.bool true)], args := [d1, d2] }
  | _ => none }
def diskTwinsRow : OpenClaim := { program := "ytjbiekcldkjgjaa", sum := "f6e3c0d11dc2979cce09e178c7e14714c22305d425181057505df9cae8a277a9", func := "mortmain/mortmainlaw06.DiskTwins", spec := "diskTwins", unfollowed := true, recurses := true, apart := false }
def DiskTwinsSaid : Prop := diskTwinsRow.holds Try.pinned (OpenSpec.ofChange diskTwinsSpec)

/-- ITS FALSE NEIGHBOUR: 'it returns false'. Refute it at one input. -/
def diskTwinsWrong : ChangeSpec := { name := "diskTwins", fn := fun _ => fun
  | [d1, d2] => { results := [.lit (.bool false)], args := [d1, d2] }
  | _ => none }
def DiskTwinsWrongFalsely : Prop := diskTwinsRow.holds Try.pinned (OpenSpec.ofChange diskTwinsWrong)

/-- 'mortmainlaw03.DigestSums': WHATEVER THE INPUT: true; the input reads as it did. -/
def digestSumsSpec : ChangeSpec := { name := "digestSums", fn := fun _ => fun
  | [d1, d2] => { results := [.lit (.bool true)], args := [d1, d2] }
  | _ => none }
def digestSumsRow : OpenClaim := { program := "ytjbiekcldkjgjaa", sum := "f6e3c0d11dc2979cce09e178c7e14714c22305d425181057505df9cae8a277a9", func := "mortmain/mortmainlaw03.DigestSums", spec := "digestSums", apart := false }
def DigestSumsSaid : Prop := digestSumsRow.holds Try.pinned (OpenSpec.ofChange digestSumsSpec)

/-- ITS FALSE NEIGHBOUR: 'it returns false'. Refute it at one input. -/
def digestSumsWrong : ChangeSpec := { name := "digestSums", fn := fun _ => fun
  | [d1, d2] => { results := [.lit (.bool false)], args := [d1, d2] }
  | _ => none }
def DigestSumsWrongFalsely : Prop := digestSumsRow.holds Try.pinned (OpenSpec.ofChange digestSumsWrong)

/-- 'mortmainlaw03.DigestGrows': WHATEVER THE INPUT: true; the input reads as it did. -/
def digestGrowsSpec : ChangeSpec := { name := "digestGrows", fn := fun _ => fun
  | [d] => { results := [.lit (.bool true)], args := [d] }
  | _ => none }
def digestGrowsRow : OpenClaim := { program := "ytjbiekcldkjgjaa", sum := "f6e3c0d11dc2979cce09e178c7e14714c22305d425181057505df9cae8a277a9", func := "mortmain/mortmainlaw03.DigestGrows", spec := "digestGrows", apart := false }
def DigestGrowsSaid : Prop := digestGrowsRow.holds Try.pinned (OpenSpec.ofChange digestGrowsSpec)

/-- ITS FALSE NEIGHBOUR: 'it returns false'. Refute it at one input. -/
def digestGrowsWrong : ChangeSpec := { name := "digestGrows", fn := fun _ => fun
  | [d] => { results := [.lit (.bool false)], args := [d] }
  | _ => none }
def DigestGrowsWrongFalsely : Prop := digestGrowsRow.holds Try.pinned (OpenSpec.ofChange digestGrowsWrong)

/-- 'mortmainlaw03.DigestPlaces': WHATEVER THE INPUT: true; the input reads as it did. -/
def digestPlacesSpec : ChangeSpec := { name := "digestPlaces", fn := fun _ => fun
  | [d1, d2, d3, d4] => { results := [.lit (.bool true)], args := [d1, d2, d3, d4] }
  | _ => none }
def digestPlacesRow : OpenClaim := { program := "ytjbiekcldkjgjaa", sum := "f6e3c0d11dc2979cce09e178c7e14714c22305d425181057505df9cae8a277a9", func := "mortmain/mortmainlaw03.DigestPlaces", spec := "digestPlaces", apart := false }
def DigestPlacesSaid : Prop := digestPlacesRow.holds Try.pinned (OpenSpec.ofChange digestPlacesSpec)

/-- ITS FALSE NEIGHBOUR: 'it returns false'. Refute it at one input. -/
def digestPlacesWrong : ChangeSpec := { name := "digestPlaces", fn := fun _ => fun
  | [d1, d2, d3, d4] => { results := [.lit (.bool false)], args := [d1, d2, d3, d4] }
  | _ => none }
def DigestPlacesWrongFalsely : Prop := digestPlacesRow.holds Try.pinned (OpenSpec.ofChange digestPlacesWrong)

/- THE SECOND FORM. 'bulk': how many values and letters a reading holds, each counted each time it is reached (what is shared counts as often as it is met; a slice's spare places count too). A statement '..UptoSaid' is the law's where the arguments, and the package variables that the reading takes, are together of bulk at most 1048576: NARROWER than '..Said'. Prove '..Said' where nothing that the law and all that it calls make is longer than what came in: it says more and counts as full. Else prove '..UptoSaid'. A law counts once. -/
mutual
def uptoBulk {H : Type} : DataW H → Nat
  | .lit (.string bytes) => bytes.length + 1
  | .lit _ => 1
  | .nil => 1
  | .ptr d => uptoBulk d + 1
  | .slice elems spare => uptoBulkAll elems + uptoBulkAll spare + 1
  | .agg parts => uptoBulkAll parts + 1
  | .iface _ d => uptoBulk d + 1
  | .map entries => uptoBulkEntries entries + 1
  | .held _ => 1
def uptoBulkAll {H : Type} : List (DataW H) → Nat
  | [] => 0
  | d :: r => uptoBulk d + uptoBulkAll r
def uptoBulkEntries {H : Type} : List (Lit × DataW H) → Nat
  | [] => 0
  | x :: r => uptoBulkEntry x + uptoBulkEntries r
def uptoBulkEntry {H : Type} : Lit × DataW H → Nat
  | (.string bytes, d) => bytes.length + uptoBulk d + 1
  | (_, d) => uptoBulk d + 1
 end
def uptoSmall : (H : Type) → List (DataW H) → Bool := fun _ ds => decide (uptoBulkAll ds ≤ 1048576)
def OpenSpec.upto (s : _root_.Go.ChangeSpec) : _root_.Go.OpenSpec := { _root_.Go.OpenSpec.ofChange s with cond := some uptoSmall }

/-- 'mortmainlaw32.FilterBits', WHERE WHAT IT READS IS OF BULK AT MOST 1048576: true; the input reads as it did. -/
def filterBitsUptoRow : OpenClaim := { program := "ytjbiekcldkjgjaa", sum := "f6e3c0d11dc2979cce09e178c7e14714c22305d425181057505df9cae8a277a9", func := "mortmain/mortmainlaw32.FilterBits", spec := "filterBits", unfollowed := true, recurses := true, apart := false, narrowed := true }
def FilterBitsUptoSaid : Prop := filterBitsUptoRow.holds Try.pinned (OpenSpec.upto filterBitsSpec)

/-- 'mortmainlaw32.FilterKeeps', WHERE WHAT IT READS IS OF BULK AT MOST 1048576: true; the input reads as it did. -/
def filterKeepsUptoRow : OpenClaim := { program := "ytjbiekcldkjgjaa", sum := "f6e3c0d11dc2979cce09e178c7e14714c22305d425181057505df9cae8a277a9", func := "mortmain/mortmainlaw32.FilterKeeps", spec := "filterKeeps", unfollowed := true, recurses := true, apart := false, narrowed := true }
def FilterKeepsUptoSaid : Prop := filterKeepsUptoRow.holds Try.pinned (OpenSpec.upto filterKeepsSpec)

/-- 'mortmainlaw32.FilterJoins', WHERE WHAT IT READS IS OF BULK AT MOST 1048576: true; the input reads as it did. -/
def filterJoinsUptoRow : OpenClaim := { program := "ytjbiekcldkjgjaa", sum := "f6e3c0d11dc2979cce09e178c7e14714c22305d425181057505df9cae8a277a9", func := "mortmain/mortmainlaw32.FilterJoins", spec := "filterJoins", unfollowed := true, recurses := true, apart := false, narrowed := true }
def FilterJoinsUptoSaid : Prop := filterJoinsUptoRow.holds Try.pinned (OpenSpec.upto filterJoinsSpec)

/-- 'mortmainlaw25.ReplyPuts', WHERE WHAT IT READS IS OF BULK AT MOST 1048576: true; the input reads as it did. -/
def replyPutsUptoRow : OpenClaim := { program := "ytjbiekcldkjgjaa", sum := "f6e3c0d11dc2979cce09e178c7e14714c22305d425181057505df9cae8a277a9", func := "mortmain/mortmainlaw25.ReplyPuts", spec := "replyPuts", unfollowed := true, recurses := true, apart := false, narrowed := true }
def ReplyPutsUptoSaid : Prop := replyPutsUptoRow.holds Try.pinned (OpenSpec.upto replyPutsSpec)

/-- 'mortmainlaw25.ReplyBack', WHERE WHAT IT READS IS OF BULK AT MOST 1048576: true; the input reads as it did. -/
def replyBackUptoRow : OpenClaim := { program := "ytjbiekcldkjgjaa", sum := "f6e3c0d11dc2979cce09e178c7e14714c22305d425181057505df9cae8a277a9", func := "mortmain/mortmainlaw25.ReplyBack", spec := "replyBack", unfollowed := true, recurses := true, apart := false, narrowed := true }
def ReplyBackUptoSaid : Prop := replyBackUptoRow.holds Try.pinned (OpenSpec.upto replyBackSpec)

/-- 'mortmainlaw25.ReplyOne', WHERE WHAT IT READS IS OF BULK AT MOST 1048576: true; the input reads as it did. -/
def replyOneUptoRow : OpenClaim := { program := "ytjbiekcldkjgjaa", sum := "f6e3c0d11dc2979cce09e178c7e14714c22305d425181057505df9cae8a277a9", func := "mortmain/mortmainlaw25.ReplyOne", spec := "replyOne", unfollowed := true, recurses := true, apart := false, narrowed := true }
def ReplyOneUptoSaid : Prop := replyOneUptoRow.holds Try.pinned (OpenSpec.upto replyOneSpec)

/-- 'mortmainlaw06.DiskDoes', WHERE WHAT IT READS IS OF BULK AT MOST 1048576: true; the input reads as it did. -/
def diskDoesUptoRow : OpenClaim := { program := "ytjbiekcldkjgjaa", sum := "f6e3c0d11dc2979cce09e178c7e14714c22305d425181057505df9cae8a277a9", func := "mortmain/mortmainlaw06.DiskDoes", spec := "diskDoes", unfollowed := true, recurses := true, apart := false, narrowed := true }
def DiskDoesUptoSaid : Prop := diskDoesUptoRow.holds Try.pinned (OpenSpec.upto diskDoesSpec)

/-- 'mortmainlaw06.DiskLasts', WHERE WHAT IT READS IS OF BULK AT MOST 1048576: true; the input reads as it did. -/
def diskLastsUptoRow : OpenClaim := { program := "ytjbiekcldkjgjaa", sum := "f6e3c0d11dc2979cce09e178c7e14714c22305d425181057505df9cae8a277a9", func := "mortmain/mortmainlaw06.DiskLasts", spec := "diskLasts", unfollowed := true, recurses := true, apart := false, narrowed := true }
def DiskLastsUptoSaid : Prop := diskLastsUptoRow.holds Try.pinned (OpenSpec.upto diskLastsSpec)

/-- 'mortmainlaw06.DiskTwins', WHERE WHAT IT READS IS OF BULK AT MOST 1048576: true; the input reads as it did. -/
def diskTwinsUptoRow : OpenClaim := { program := "ytjbiekcldkjgjaa", sum := "f6e3c0d11dc2979cce09e178c7e14714c22305d425181057505df9cae8a277a9", func := "mortmain/mortmainlaw06.DiskTwins", spec := "diskTwins", unfollowed := true, recurses := true, apart := false, narrowed := true }
def DiskTwinsUptoSaid : Prop := diskTwinsUptoRow.holds Try.pinned (OpenSpec.upto diskTwinsSpec)

/-- 'mortmainlaw03.DigestSums', WHERE WHAT IT READS IS OF BULK AT MOST 1048576: true; the input reads as it did. -/
def digestSumsUptoRow : OpenClaim := { program := "ytjbiekcldkjgjaa", sum := "f6e3c0d11dc2979cce09e178c7e14714c22305d425181057505df9cae8a277a9", func := "mortmain/mortmainlaw03.DigestSums", spec := "digestSums", apart := false, narrowed := true }
def DigestSumsUptoSaid : Prop := digestSumsUptoRow.holds Try.pinned (OpenSpec.upto digestSumsSpec)

/-- 'mortmainlaw03.DigestGrows', WHERE WHAT IT READS IS OF BULK AT MOST 1048576: true; the input reads as it did. -/
def digestGrowsUptoRow : OpenClaim := { program := "ytjbiekcldkjgjaa", sum := "f6e3c0d11dc2979cce09e178c7e14714c22305d425181057505df9cae8a277a9", func := "mortmain/mortmainlaw03.DigestGrows", spec := "digestGrows", apart := false, narrowed := true }
def DigestGrowsUptoSaid : Prop := digestGrowsUptoRow.holds Try.pinned (OpenSpec.upto digestGrowsSpec)

/-- 'mortmainlaw03.DigestPlaces', WHERE WHAT IT READS IS OF BULK AT MOST 1048576: true; the input reads as it did. -/
def digestPlacesUptoRow : OpenClaim := { program := "ytjbiekcldkjgjaa", sum := "f6e3c0d11dc2979cce09e178c7e14714c22305d425181057505df9cae8a277a9", func := "mortmain/mortmainlaw03.DigestPlaces", spec := "digestPlaces", apart := false, narrowed := true }
def DigestPlacesUptoSaid : Prop := digestPlacesUptoRow.holds Try.pinned (OpenSpec.upto digestPlacesSpec)

end Rows
end Go.Proofs.Ytjbiekcldkjgjaa
