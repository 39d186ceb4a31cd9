/- The walks of PlanRoom, PlanHomes. -/
import Derived.Test.YtgbplcelcjffdaaPe
namespace Go.Proofs.Ytgbplcelcjffdaa
open Go AVL
set_option linter.unusedVariables false
set_option linter.unusedSimpArgs false

theorem part_home (s t c a at_ : Int) (h : planOk s t c a) : ∀ x, partB 5 (5 + ixN s) (5 + ixN s + t) (5 + ixN s + t + c) (5 + ixN s + t + c + a) (5 + ixN s + t + c + a + 1)
    (5 + ixN s + t + c + a + 1 + (ixN s + 9 + t)) (5 + ixN s + t + c + a + 1 + (ixN s + 9 + t) + s) at_ = x →
    (x = wState ∨ x = wMap ∨ x = wClasses ∨ x = wIndex ∨ x = wText ∨ x = wClip ∨ x = wAudit) ∧ (2 ≤ at_ ∧ at_ < 5 + ixN s + t + c + a) ∨
    (x = ⟨#[]⟩ ∨ x = wSlot ∨ x = wBody ∨ x = wHead ∨ x = wSuper) ∧ ¬(2 ≤ at_ ∧ at_ < 5 + ixN s + t + c + a) := by
  intro x hx
  unfold planOk at h
  have : ixN s = (2 * s + 5) / 6 := rfl
  rw [partB] at hx
  by_cases c0 : at_ < 0
  · rw [if_pos c0] at hx; subst hx; exact .inr ⟨by simp, by omega⟩
  rw [if_neg c0] at hx
  by_cases c1 : 5 + ixN s + t + c + a + 1 + (ixN s + 9 + t) + s ≤ at_
  · rw [if_pos c1] at hx; subst hx; exact .inr ⟨by simp, by omega⟩
  rw [if_neg c1] at hx
  by_cases c2 : 5 + ixN s + t + c + a + 1 + (ixN s + 9 + t) ≤ at_
  · rw [if_pos c2] at hx; subst hx; exact .inr ⟨by simp, by omega⟩
  rw [if_neg c2] at hx
  by_cases c3 : 5 + ixN s + t + c + a + 1 ≤ at_
  · rw [if_pos c3] at hx; subst hx; exact .inr ⟨by simp, by omega⟩
  rw [if_neg c3] at hx
  by_cases c4 : at_ = 5 + ixN s + t + c + a
  · rw [if_pos c4] at hx; subst hx; exact .inr ⟨by simp, by omega⟩
  rw [if_neg c4] at hx
  by_cases c5 : 5 + ixN s + t + c ≤ at_
  · rw [if_pos c5] at hx; subst hx; exact .inl ⟨by simp, by omega⟩
  rw [if_neg c5] at hx
  by_cases c6 : 5 + ixN s + t ≤ at_
  · rw [if_pos c6] at hx; subst hx; exact .inl ⟨by simp, by omega⟩
  rw [if_neg c6] at hx
  by_cases c7 : 5 + ixN s ≤ at_
  · rw [if_pos c7] at hx; subst hx; exact .inl ⟨by simp, by omega⟩
  rw [if_neg c7] at hx
  by_cases c8 : 5 ≤ at_
  · rw [if_pos c8] at hx; subst hx; exact .inl ⟨by simp, by omega⟩
  rw [if_neg c8] at hx
  by_cases c9 : at_ = 4
  · rw [if_pos c9] at hx; subst hx; exact .inl ⟨by simp, by omega⟩
  rw [if_neg c9] at hx
  by_cases c10 : at_ = 3
  · rw [if_pos c10] at hx; subst hx; exact .inl ⟨by simp, by omega⟩
  rw [if_neg c10] at hx
  by_cases c11 : at_ = 2
  · rw [if_pos c11] at hx; subst hx; exact .inl ⟨by simp, by omega⟩
  rw [if_neg c11] at hx
  subst hx; exact .inr ⟨by simp, by omega⟩
set_option maxRecDepth 8000 in
theorem w_law07_PlanHomes (s t c a at_ : Int) : Gives Try.prog F_law07_PlanHomes [planV s t c a, .int .i64 at_] (.bool true) := by
  refine v_law07_PlanHomes (by simp) ?_
  simp -implicitDefEqProofs [a_law07_PlanHomes, q_law07_PlanHomes_0, q_law07_PlanHomes_1, planV]
  intro g
  by_cases h : planOk s t c a
  · refine (w_plan_Of s t c a h).call (.cons (.refl _) rfl .nil) rfl ?_
    simp -implicitDefEqProofs +contextual [layV, layL, q_law07_PlanHomes_2, q_law07_PlanHomes_3, q_law07_PlanHomes_4]
    intro g1 k1 k2
    refine (w_plan_Layout_Part s t c a _ _ _ _ _ _ _ _ _ _ _).call (.cons (.refl _) rfl (.cons (.refl _) rfl .nil)) rfl ?_
    simp -implicitDefEqProofs [q_law07_PlanHomes_5, k1, k2]
    refine (w_plan_Layout_Home s t c a _ _ _ _ _ _ _ _ _ _ _).call (.cons (.refl _) rfl (.cons (.refl _) rfl .nil)) rfl ?_
    have key := part_home s t c a at_ h _ rfl
    revert key
    generalize partB _ _ _ _ _ _ _ _ _ = x
    rintro (⟨rfl | rfl | rfl | rfl | rfl | rfl | rfl, hx⟩ | ⟨rfl | rfl | rfl | rfl | rfl, hx⟩) <;>
    · simp -implicitDefEqProofs [q_law07_PlanHomes_5, k1, k2, hx]
      refine w_law07_works.call .nil rfl ?_
      simp -implicitDefEqProofs
  · refine (w_plan_Of_bad s t c a h).call (.cons (.refl _) rfl .nil) rfl ?_
    simp -implicitDefEqProofs +contextual [layV, lay0, q_law07_PlanHomes_2, q_law07_PlanHomes_3]
    intro g1 k1 k2
    refine w_law07_works.call .nil rfl ?_
    simp -implicitDefEqProofs
end Go.Proofs.Ytgbplcelcjffdaa
