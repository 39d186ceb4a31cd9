/- TreeRoots returns true for all things and all numbers, and changes nothing that was there; no condition beyond the statement's own. -/
import Derived.Test.YtfdckjliinpjiaaRows
import Derived.WalkKit
import Derived.ProofKit
import Derived.OpenShut
import Derived.ShutString
import Derived.ChangeOld
import Derived.Below
import Derived.Test.YtfdckjliinpjiaaL4
import Derived.Test.YtfdckjliinpjiaaTree3
namespace Go.Proofs.Ytfdckjliinpjiaa.treeRoots
open Go.ChangeShapes Go.WideShapes Go.ChangeAt Go.RowKit
open AVL
set_option linter.unusedVariables false

theorem own : ownKnob Try.prog.godebug = none := by kernel_rfl
theorem laidOut : laidOutB Try.prog = true := by kernel_rfl
def tys : List TypeId := [62, 3, 3]

theorem sim (avs : List AV) (h : ATy.hasL [.dsl 1 (.isl .u8), .int .i64, .int .i64] avs) : SimX Try.prog 12 avs (fun _ => none) (fun o _ => o = .ret (.bool true)) := by
  simp only [ATy.hasL] at h
  obtain ⟨_, _, rfl, h1, _, _, rfl, h2, _, _, rfl, h3, rfl⟩ := h
  unfold ATy.has at h1 h2 h3
  obtain ⟨l, rfl, hlen, w⟩ := h1
  obtain ⟨a, rfl, wa⟩ := h2
  obtain ⟨n, rfl, wn⟩ := h3
  obtain ⟨L, rfl, hL⟩ := txts_in w
  obtain ⟨a1, a2⟩ := i64_in wa
  obtain ⟨n1, n2⟩ := i64_in wn
  have hm : L.length < 2 ^ 63 := by simp [maxLen] at hlen; omega
  exact (w_TreeRoots hL hm a1 a2 n1 n2).sim

set_option maxRecDepth 100000 in
theorem lifted (os : Os) (started : os.Started) (H : Type) (enc : TypeId × Value → H) :
    ReturnsInHanded {} Try.checked os 12 .any (Rows.treeRootsSpec.pre6 enc Try.prog Try.f12 Rows.treeRootsRow.domain false) (Rows.treeRootsSpec.post enc Try.prog Try.f12 false true false false) := by
  refine returnsInHanded_of_change (C := Try.checked) own started (by kernel_rfl) Try.func12
    (ChangeSpec.witness6 (enc := enc) (C := Try.checked) false ⟨#[], #[.slice none 0 0, .int .i64 0, .int .i64 0], []⟩ 8 (by kernel_rfl) (by kernel_rfl) (by kernel_rfl) (by kernel_rfl)) ?_
  intro W base args ds gs before hval0 hW hcnd _
  have hval : ∀ (j : Nat) t v, Try.f12.params[j]? = some t → args[j]? = some v → Value.okWide Try.prog W .any base t v := hval0
  have hW' := hW
  obtain ⟨p, q, hA0, hV, rfl, hfz, hnd⟩ := hW
  have hA : DataW.TrodAll enc Try.prog W 0 (fun _ => true) true Try.f12.params.toList args.toList ds p := hA0
  rw [Try.params12] at hA hval
  obtain ⟨rfl, rfl⟩ := trodVars_none hV
  have hB := hA
  obtain ⟨v0, vs0, d0, ds0, p0, q0, hx0, rfl, rfl, h0, hA0⟩ := trodAll_cons hA
  obtain ⟨v1, vs1, d1, ds1, p1, q1, hx1, rfl, rfl, h1, hA1⟩ := trodAll_cons hA0
  obtain ⟨v2, vs2, d2, ds2, p2, q2, hx2, rfl, rfl, h2, hA2⟩ := trodAll_cons hA1
  obtain ⟨rfl, rfl, rfl⟩ := trodAll_nil hA2
  refine (law_args (P := Try.prog) (ts := tys) (n := 12) hB hval (τs := [.dsl 1 (.isl .u8), .int .i64, .int .i64]) (by kernel_rfl) sim).mono fun e W' ⟨he, bel⟩ => ?_
  subst he
  exact ⟨_, rfl, _, _, _, [], _, [], hW', trodAll_mk1 (shut_bool Try.underlying4 _), all_below (ts := tys) laidOut bel (by kernel_rfl) hB, rfl, bel.frame _, fun h => by cases h⟩

theorem over : Rows.treeRootsRow.holds Try.pinned (OpenSpec.ofChange Rows.treeRootsSpec) :=
  OpenClaim.holds_of_wide 12 Try.f12 rfl rfl rfl rfl rfl rfl rfl ⟨rfl, rfl, rfl, rfl, rfl⟩ rfl rfl rfl rfl rfl (by kernel_rfl) Try.func12 (by kernel_rfl)
    (of_decide_eq_true (by kernel_rfl)) (by unfold Func.isWrapper; first | (rw [if_pos (by decide +kernel)]; kernel_rfl) | (rw [if_neg (by decide +kernel)]; exact ⟨rfl, rfl⟩))
    (fun os started H enc _ => lifted os started H enc)

theorem proved : Rows.TreeRootsSaid := over
#print axioms proved
end Go.Proofs.Ytfdckjliinpjiaa.treeRoots
