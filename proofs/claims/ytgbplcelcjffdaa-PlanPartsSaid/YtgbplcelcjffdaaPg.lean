/- The walk of PlanRoom. -/
import Derived.Test.YtgbplcelcjffdaaPf
namespace Go.Proofs.Ytgbplcelcjffdaa
open Go AVL
set_option linter.unusedVariables false
set_option linter.unusedSimpArgs false

theorem same_lay (s t c a s' t' c' a' : Int) : Gives Try.prog F_plan_Same [layV (layL s t c a), layV (layL s' t' c' a')] (.bool (decide (s = s') && (decide (t = t') && (decide (c = c') && decide (a = a'))))) := by
  rw [show (decide (s = s') && (decide (t = t') && (decide (c = c') && decide (a = a')))) = decide (layL s t c a = layL s' t' c' a') from ?_]
  · exact w_plan_Same s t c a _ _ _ _ _ _ _ _ _ _ s' t' c' a' _ _ _ _ _ _ _ _ _ _
  · by_cases h : s = s' ∧ t = t' ∧ c = c' ∧ a = a'
    · obtain ⟨rfl, rfl, rfl, rfl⟩ := h; simp
    · rw [decide_eq_false (p := layL s t c a = layL s' t' c' a') (fun e => h ?_)]
      · simp only [Bool.and_eq_false_iff, decide_eq_false_iff_not]; omega
      · simp only [layL, List.cons.injEq] at e; exact ⟨e.1, e.2.1, e.2.2.1, e.2.2.2.1⟩
set_option maxRecDepth 8000 in
theorem w_law07_PlanRoom (s t c a s' t' c' a' : Int) : Gives Try.prog F_law07_PlanRoom [planV s t c a, planV s' t' c' a'] (.bool true) := by
  refine v_law07_PlanRoom (by simp) ?_
  simp -implicitDefEqProofs +contextual [a_law07_PlanRoom, q_law07_PlanRoom_0, q_law07_PlanRoom_1, planV]
  intro g g' k1 k2
  by_cases h : planOk s t c a
  · refine (w_plan_Of s t c a h).call (.cons (.refl _) rfl .nil) rfl ?_
    simp -implicitDefEqProofs +contextual [layV, layL, q_law07_PlanRoom_2, k1, k2]
    intro g1 k3 k4 k5 k6
    by_cases h' : planOk s' t' c' a'
    · refine (w_plan_Of s' t' c' a' h').call (.cons (.refl _) rfl .nil) rfl ?_
      simp -implicitDefEqProofs +contextual [layV, layL, q_law07_PlanRoom_3, q_law07_PlanRoom_4, k1, k2, k3, k4, k5, k6]
      intro g2 k7 k8 k9 k10 k11 k12
      have hp := h
      have hp' := h'
      unfold planOk at hp hp'
      have hx : ixN s = (2 * s + 5) / 6 := rfl
      have f1 : 2 * s ≤ ixN s * 6 := by omega
      have f2 : ixN s * 6 < 2 * s + 6 := by omega
      have f3 : 5 + ixN s + t - 5 + 9 = ixN s + 9 + t := by omega
      have f4 : 5 + ixN s + t + c + a + 1 + (ixN s + 9 + t) + s ≤ 4096 := by omega
      simp -implicitDefEqProofs (disch := first | omega | simp) [q_law07_PlanRoom_5, k1, k2, k3, k4, k5, k6, k7, k8, k9, k10, k11, k12, wrap_i64, f1, f2, f3, f4]
      refine (same_lay s t c a s' t' c' a').call (.cons (.refl _) rfl (.cons (.refl _) rfl .nil)) rfl ?_
      simp -implicitDefEqProofs [k1, k2, k3, k4, k5, k6, k7, k8, k9, k10, k11, k12, Sub_refl]
      refine w_law07_works.call .nil rfl ?_
      simp -implicitDefEqProofs
    · refine (w_plan_Of_bad s' t' c' a' h').call (.cons (.refl _) rfl .nil) rfl ?_
      simp -implicitDefEqProofs +contextual [layV, lay0, q_law07_PlanRoom_3, q_law07_PlanRoom_4, k1, k2, k3, k4, k5, k6]
      intro g2 k7 k8 k9 k10 k11 k12
      refine w_law07_works.call .nil rfl ?_
      simp -implicitDefEqProofs
  · refine (w_plan_Of_bad s t c a h).call (.cons (.refl _) rfl .nil) rfl ?_
    simp -implicitDefEqProofs +contextual [layV, lay0, q_law07_PlanRoom_2, q_law07_PlanRoom_3, k1, k2]
    intro g1 k3 k4 k5 k6
    by_cases h' : planOk s' t' c' a'
    · refine (w_plan_Of s' t' c' a' h').call (.cons (.refl _) rfl .nil) rfl ?_
      simp -implicitDefEqProofs +contextual [layV, layL, q_law07_PlanRoom_3, q_law07_PlanRoom_4, k1, k2, k3, k4, k5, k6]
      intro g2 k7 k8 k9 k10 k11 k12
      refine w_law07_works.call .nil rfl ?_
      simp -implicitDefEqProofs
    · refine (w_plan_Of_bad s' t' c' a' h').call (.cons (.refl _) rfl .nil) rfl ?_
      simp -implicitDefEqProofs +contextual [layV, lay0, q_law07_PlanRoom_3, q_law07_PlanRoom_4, k1, k2, k3, k4, k5, k6]
      intro g2 k7 k8 k9 k10 k11 k12
      refine w_law07_works.call .nil rfl ?_
      simp -implicitDefEqProofs
end Go.Proofs.Ytgbplcelcjffdaa
