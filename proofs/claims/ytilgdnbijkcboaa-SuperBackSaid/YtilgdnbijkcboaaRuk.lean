/- SuperBack returns true for every plan, every number of mounts, every place and every mask, and changes nothing that was there; no condition beyond the statement's own. -/
import Derived.Test.YtilgdnbijkcboaaRows
import Derived.WalkKit
import Derived.ProofKit
import Derived.OpenShut
import Derived.ShutString
import Derived.ChangeOld
import Derived.Below
import Derived.Test.YtilgdnbijkcboaaL4
import Derived.Test.YtilgdnbijkcboaaSk2
namespace Go.Proofs.Ytilgdnbijkcboaa.superBack
open Go.ChangeShapes Go.WideShapes Go.ChangeAt Go.RowKit
open AVL
set_option linter.unusedVariables false

theorem own : ownKnob Try.prog.godebug = none := by kernel_rfl
theorem laidOut : laidOutB Try.prog = true := by kernel_rfl
def tys : List TypeId := [53, 3, 70, 71]

theorem sim (avs : List AV) (h : ATy.hasL [.agg [.int .i64, .int .i64, .int .i64, .int .i64], .int .i64, .int .u16, .int .u32] avs) : SimX Try.prog 8 avs (fun _ => none) (fun o _ => o = .ret (.bool true)) := by
  simp only [ATy.hasL] at h
  obtain ⟨_, _, rfl, h1, _, _, rfl, h2, _, _, rfl, h3, _, _, rfl, h4, rfl⟩ := h
  obtain ⟨s, t, c, u, rfl⟩ := plan_in h1
  unfold ATy.has at h2
  obtain ⟨m, rfl, _⟩ := h2

  unfold ATy.has at h3 h4
  obtain ⟨a, rfl, wa⟩ := h3
  obtain ⟨b, rfl, wb⟩ := h4
  obtain ⟨a, rfl, ha⟩ := u16_in wa
  obtain ⟨b, rfl, hb⟩ := u32_in wb
  exact (w_SuperBack s t c u m a b ha hb).sim

set_option maxRecDepth 100000 in
theorem lifted (os : Os) (started : os.Started) (H : Type) (enc : TypeId × Value → H) :
    ReturnsInHanded {} Try.checked os 8 .any (Rows.superBackSpec.pre6 enc Try.prog Try.f8 Rows.superBackRow.domain false) (Rows.superBackSpec.post enc Try.prog Try.f8 false true false false) := by
  refine returnsInHanded_of_change (C := Try.checked) own started (by kernel_rfl) Try.func8
    (ChangeSpec.witness6 (enc := enc) (C := Try.checked) false ⟨#[], #[.agg #[.int .i64 0, .int .i64 0, .int .i64 0, .int .i64 0], .int .i64 0, .int .u16 0, .int .u32 0], []⟩ 8 (by kernel_rfl) (by kernel_rfl) (by kernel_rfl) (by kernel_rfl)) ?_
  intro W base args ds gs before hval0 hW hcnd _
  have hval : ∀ (j : Nat) t v, Try.f8.params[j]? = some t → args[j]? = some v → Value.okWide Try.prog W .any base t v := hval0
  have hW' := hW
  obtain ⟨p, q, hA0, hV, rfl, hfz, hnd⟩ := hW
  have hA : DataW.TrodAll enc Try.prog W 0 (fun _ => true) true Try.f8.params.toList args.toList ds p := hA0
  rw [Try.params8] at hA hval
  obtain ⟨rfl, rfl⟩ := trodVars_none hV
  have hB := hA
  obtain ⟨v0, vs0, d0, ds0, p0, q0, hx0, rfl, rfl, h0, hA0⟩ := trodAll_cons hA
  obtain ⟨v1, vs1, d1, ds1, p1, q1, hx1, rfl, rfl, h1, hA1⟩ := trodAll_cons hA0
  obtain ⟨v2, vs2, d2, ds2, p2, q2, hx2, rfl, rfl, h2, hA2⟩ := trodAll_cons hA1
  obtain ⟨v3, vs3, d3, ds3, p3, q3, hx3, rfl, rfl, h3, hA3⟩ := trodAll_cons hA2
  obtain ⟨rfl, rfl, rfl⟩ := trodAll_nil hA3
  refine (law_args (P := Try.prog) (ts := tys) (n := 12) hB hval (τs := [.agg [.int .i64, .int .i64, .int .i64, .int .i64], .int .i64, .int .u16, .int .u32]) (by kernel_rfl) sim).mono fun e W' ⟨he, bel⟩ => ?_
  subst he
  exact ⟨_, rfl, _, _, _, [], _, [], hW', trodAll_mk1 (shut_bool Try.underlying4 _), all_below (ts := tys) laidOut bel (by kernel_rfl) hB, rfl, bel.frame _, fun h => by cases h⟩

theorem over : Rows.superBackRow.holds Try.pinned (OpenSpec.ofChange Rows.superBackSpec) :=
  OpenClaim.holds_of_wide 8 Try.f8 rfl rfl rfl rfl rfl rfl rfl ⟨rfl, rfl, rfl, rfl, rfl⟩ rfl rfl rfl rfl rfl (by kernel_rfl) Try.func8 (by kernel_rfl)
    (of_decide_eq_true (by kernel_rfl)) (by unfold Func.isWrapper; first | (rw [if_pos (by decide +kernel)]; kernel_rfl) | (rw [if_neg (by decide +kernel)]; exact ⟨rfl, rfl⟩))
    (fun os started H enc _ => lifted os started H enc)

theorem proved : Rows.SuperBackSaid := over
#print axioms proved
end Go.Proofs.Ytilgdnbijkcboaa.superBack
