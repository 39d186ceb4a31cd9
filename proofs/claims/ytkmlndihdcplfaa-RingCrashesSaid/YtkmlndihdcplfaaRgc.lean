/- RingCrashes returns true for every size and all acts, and changes nothing that was there; no condition beyond the statement's own. -/
import Derived.Test.YtkmlndihdcplfaaRows
import Derived.WalkKit
import Derived.ProofKit
import Derived.OpenShut
import Derived.ShutString
import Derived.ChangeOld
import Derived.Below
import Derived.Test.YtkmlndihdcplfaaL4
import Derived.Test.YtkmlndihdcplfaaH3
namespace Go.Proofs.Ytkmlndihdcplfaa.ringCrashes
open Go.ChangeShapes Go.WideShapes Go.ChangeAt Go.RowKit
open AVL
set_option linter.unusedVariables false

theorem own : ownKnob Try.prog.godebug = none := by kernel_rfl
theorem laidOut : laidOutB Try.prog = true := by kernel_rfl
def tys : List TypeId := [5, 32]

theorem sim (avs : List AV) (h : ATy.hasL [.int .u8, .dsl 6 (.agg [.int .i64, .isl .u8, .int .u8, .bool, .int .u8, .bool])] avs) : SimX Try.prog 6 avs (fun _ => none) (fun o _ => o = .ret (.bool true)) := by
  simp only [ATy.hasL] at h
  obtain ⟨_, _, rfl, h1, _, _, rfl, h2, rfl⟩ := h
  unfold ATy.has at h1 h2
  obtain ⟨c, rfl, wc⟩ := h1
  obtain ⟨c, rfl, hc⟩ := u8_in wc
  obtain ⟨l, rfl, hlen, w⟩ := h2
  obtain ⟨l, rfl, hl⟩ := all_in (fun _ => ro_in) w
  have hm : l.length < 2 ^ 63 := by simp [maxLen] at hlen; omega
  exact (w_RingCrashes c hc l hm hl).sim

set_option maxRecDepth 100000 in
theorem lifted (os : Os) (started : os.Started) (H : Type) (enc : TypeId × Value → H) :
    ReturnsInHanded {} Try.checked os 6 .any (Rows.ringCrashesSpec.pre6 enc Try.prog Try.f6 Rows.ringCrashesRow.domain false) (Rows.ringCrashesSpec.post enc Try.prog Try.f6 false true false false) := by
  refine returnsInHanded_of_change (C := Try.checked) own started (by kernel_rfl) Try.func6
    (ChangeSpec.witness6 (enc := enc) (C := Try.checked) false ⟨#[], #[.int .u8 0, .slice none 0 0], []⟩ 8 (by kernel_rfl) (by kernel_rfl) (by kernel_rfl) (by kernel_rfl)) ?_
  intro W base args ds gs before hval0 hW hcnd _
  have hval : ∀ (j : Nat) t v, Try.f6.params[j]? = some t → args[j]? = some v → Value.okWide Try.prog W .any base t v := hval0
  have hW' := hW
  obtain ⟨p, q, hA0, hV, rfl, hfz, hnd⟩ := hW
  have hA : DataW.TrodAll enc Try.prog W 0 (fun _ => true) true Try.f6.params.toList args.toList ds p := hA0
  rw [Try.params6] at hA hval
  obtain ⟨rfl, rfl⟩ := trodVars_none hV
  have hB := hA
  obtain ⟨v0, vs0, d0, ds0, p0, q0, hx0, rfl, rfl, h0, hA0⟩ := trodAll_cons hA
  obtain ⟨v1, vs1, d1, ds1, p1, q1, hx1, rfl, rfl, h1, hA1⟩ := trodAll_cons hA0
  obtain ⟨rfl, rfl, rfl⟩ := trodAll_nil hA1
  refine (law_args (P := Try.prog) (ts := tys) (n := 12) hB hval (τs := [.int .u8, .dsl 6 (.agg [.int .i64, .isl .u8, .int .u8, .bool, .int .u8, .bool])]) (by kernel_rfl) sim).mono fun e W' ⟨he, bel⟩ => ?_
  subst he
  exact ⟨_, rfl, _, _, _, [], _, [], hW', trodAll_mk1 (shut_bool Try.underlying4 _), all_below (ts := tys) laidOut bel (by kernel_rfl) hB, rfl, bel.frame _, fun h => by cases h⟩

theorem over : Rows.ringCrashesRow.holds Try.pinned (OpenSpec.ofChange Rows.ringCrashesSpec) :=
  OpenClaim.holds_of_wide 6 Try.f6 rfl rfl rfl rfl rfl rfl rfl ⟨rfl, rfl, rfl, rfl, rfl⟩ rfl rfl rfl rfl rfl (by kernel_rfl) Try.func6 (by kernel_rfl)
    (of_decide_eq_true (by kernel_rfl)) (by unfold Func.isWrapper; first | (rw [if_pos (by decide +kernel)]; kernel_rfl) | (rw [if_neg (by decide +kernel)]; exact ⟨rfl, rfl⟩))
    (fun os started H enc _ => lifted os started H enc)

theorem proved : Rows.RingCrashesSaid := over
#print axioms proved
end Go.Proofs.Ytkmlndihdcplfaa.ringCrashes
