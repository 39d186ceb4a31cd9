/- TreeTells returns true for all things, proofs and bytes, and changes nothing that was there; no condition beyond the statement's own. -/
import Derived.Test.YtfdckjliinpjiaaRows
import Derived.WalkKit
import Derived.ProofKit
import Derived.OpenShut
import Derived.ShutString
import Derived.ChangeOld
import Derived.Below
import Derived.Test.YtfdckjliinpjiaaL4
import Derived.Test.YtfdckjliinpjiaaTree3
namespace Go.Proofs.Ytfdckjliinpjiaa.treeTells
open Go.ChangeShapes Go.WideShapes Go.ChangeAt Go.RowKit
open AVL
set_option linter.unusedVariables false

theorem own : ownKnob Try.prog.godebug = none := by kernel_rfl
theorem laidOut : laidOutB Try.prog = true := by kernel_rfl
def tys : List TypeId := [62, 82, 22]

theorem sim (avs : List AV) (h : ATy.hasL [.dsl 1 (.isl .u8), .agg [.int .i64, .int .i64, .dsl 32 (.iarr .u8 32)], .isl .u8] avs) : SimX Try.prog 14 avs (fun _ => none) (fun o _ => o = .ret (.bool true)) := by
  simp only [ATy.hasL] at h
  obtain ⟨_, _, rfl, h1, _, _, rfl, h2, _, _, rfl, h3, rfl⟩ := h
  unfold ATy.has at h1 h2 h3
  obtain ⟨l, rfl, hlen, w⟩ := h1
  obtain ⟨ps, rfl, wp⟩ := h2
  obtain ⟨b, rfl, hbl, wb⟩ := h3
  simp only [ATy.hasL] at wp
  obtain ⟨_, _, rfl, k1, _, _, rfl, k2, _, _, rfl, k3, rfl⟩ := wp
  unfold ATy.has at k1 k2 k3
  obtain ⟨a, rfl, wa⟩ := k1
  obtain ⟨n, rfl, wn⟩ := k2
  obtain ⟨p, rfl, hpl, wpp⟩ := k3
  obtain ⟨L, rfl, hL⟩ := txts_in w
  obtain ⟨p, rfl, hp⟩ := ads_in wpp
  obtain ⟨b, rfl, hb⟩ := bytes_in wb
  have hm : L.length < 2 ^ 63 := by simp [maxLen] at hlen; omega
  have hm2 : p.length < 2 ^ 63 := by simp [maxLen] at hpl; omega
  have hm3 : b.length < 2 ^ 63 := by simp [maxLen] at hbl; omega
  exact (w_TreeTells hL hm (i64_in wa) (i64_in wn) hp hm2 hb hm3).sim

set_option maxRecDepth 100000 in
theorem lifted (os : Os) (started : os.Started) (H : Type) (enc : TypeId × Value → H) :
    ReturnsInHanded {} Try.checked os 14 .any (Rows.treeTellsSpec.pre6 enc Try.prog Try.f14 Rows.treeTellsRow.domain false) (Rows.treeTellsSpec.post enc Try.prog Try.f14 false true false false) := by
  refine returnsInHanded_of_change (C := Try.checked) own started (by kernel_rfl) Try.func14
    (ChangeSpec.witness6 (enc := enc) (C := Try.checked) false ⟨#[], #[.slice none 0 0, .agg #[.int .i64 0, .int .i64 0, .slice none 0 0], .slice none 0 0], []⟩ 8 (by kernel_rfl) (by kernel_rfl) (by kernel_rfl) (by kernel_rfl)) ?_
  intro W base args ds gs before hval0 hW hcnd _
  have hval : ∀ (j : Nat) t v, Try.f14.params[j]? = some t → args[j]? = some v → Value.okWide Try.prog W .any base t v := hval0
  have hW' := hW
  obtain ⟨p, q, hA0, hV, rfl, hfz, hnd⟩ := hW
  have hA : DataW.TrodAll enc Try.prog W 0 (fun _ => true) true Try.f14.params.toList args.toList ds p := hA0
  rw [Try.params14] at hA hval
  obtain ⟨rfl, rfl⟩ := trodVars_none hV
  have hB := hA
  obtain ⟨v0, vs0, d0, ds0, p0, q0, hx0, rfl, rfl, h0, hA0⟩ := trodAll_cons hA
  obtain ⟨v1, vs1, d1, ds1, p1, q1, hx1, rfl, rfl, h1, hA1⟩ := trodAll_cons hA0
  obtain ⟨v2, vs2, d2, ds2, p2, q2, hx2, rfl, rfl, h2, hA2⟩ := trodAll_cons hA1
  obtain ⟨rfl, rfl, rfl⟩ := trodAll_nil hA2
  refine (law_args (P := Try.prog) (ts := tys) (n := 12) hB hval (τs := [.dsl 1 (.isl .u8), .agg [.int .i64, .int .i64, .dsl 32 (.iarr .u8 32)], .isl .u8]) (by kernel_rfl) sim).mono fun e W' ⟨he, bel⟩ => ?_
  subst he
  exact ⟨_, rfl, _, _, _, [], _, [], hW', trodAll_mk1 (shut_bool Try.underlying4 _), all_below (ts := tys) laidOut bel (by kernel_rfl) hB, rfl, bel.frame _, fun h => by cases h⟩

theorem over : Rows.treeTellsRow.holds Try.pinned (OpenSpec.ofChange Rows.treeTellsSpec) :=
  OpenClaim.holds_of_wide 14 Try.f14 rfl rfl rfl rfl rfl rfl rfl ⟨rfl, rfl, rfl, rfl, rfl⟩ rfl rfl rfl rfl rfl (by kernel_rfl) Try.func14 (by kernel_rfl)
    (of_decide_eq_true (by kernel_rfl)) (by unfold Func.isWrapper; first | (rw [if_pos (by decide +kernel)]; kernel_rfl) | (rw [if_neg (by decide +kernel)]; exact ⟨rfl, rfl⟩))
    (fun os started H enc _ => lifted os started H enc)

theorem proved : Rows.TreeTellsSaid := over
#print axioms proved
end Go.Proofs.Ytfdckjliinpjiaa.treeTells
