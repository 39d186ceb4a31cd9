/- The walks of the plan's functions: Check. -/
import Derived.Test.YtgbplcelcjffdaaGplan
namespace Go.Proofs.Ytgbplcelcjffdaa
open Go AVL
set_option linter.unusedVariables false
set_option linter.unusedSimpArgs false

def planV (s t c a : Int) : AV := .agg [.int .i64 s, .int .i64 t, .int .i64 c, .int .i64 a]
def planOk (s t c a : Int) : Prop := (1 ≤ s ∧ s ≤ 200) ∧ (1 ≤ t ∧ t ≤ 40) ∧ (1 ≤ c ∧ c ≤ 40) ∧ (1 ≤ a ∧ a ≤ 80)
instance (s t c a : Int) : Decidable (planOk s t c a) := by unfold planOk; infer_instance
def planCode (s t c a : Int) : Int := if planOk s t c a then 0 else 2

theorem w_ref07_right (s t c a : Int) : Gives Try.prog F_ref07_right [planV s t c a] (.bool (decide (planOk s t c a))) := by
  refine v_ref07_right (by simp) ?_
  simp -implicitDefEqProofs +contextual [a_ref07_right, q_ref07_right_0, q_ref07_right_1, planV, guardO_dec]
  by_cases h : planOk s t c a <;> simp [h] <;> unfold planOk at h <;> omega
theorem w_ref07_Check (s t c a : Int) : Gives Try.prog F_ref07_Check [planV s t c a] (.int .i64 (planCode s t c a)) := by
  refine v_ref07_Check (by simp) ?_
  simp -implicitDefEqProofs [a_ref07_Check, q_ref07_Check_0, q_ref07_Check_1, planV]
  intro g
  refine (w_ref07_right s t c a).call (.cons (.refl _) rfl .nil) rfl ?_
  simp -implicitDefEqProofs +contextual [q_ref07_Check_2, q_ref07_Check_3, planCode]
theorem w_plan_Check (s t c a : Int) : Gives Try.prog F_plan_Check [planV s t c a] (.int .i64 (planCode s t c a)) := by
  refine v_plan_Check (by simp) ?_
  simp -implicitDefEqProofs [a_plan_Check, q_plan_Check_0, q_plan_Check_1, planV]
  intro g
  refine X_lp (fun (i : Nat) env A => i ≤ 4 ∧ env 17 = .agg [.iarr .i64 2 [s, 200], .iarr .i64 2 [t, 40], .iarr .i64 2 [c, 40], .iarr .i64 2 [a, 80]] ∧ env 18 = .int .i64 i ∧
    (0 < i → 1 ≤ s ∧ s ≤ 200) ∧ (1 < i → 1 ≤ t ∧ t ≤ 40) ∧ (2 < i → 1 ≤ c ∧ c ≤ 40) ∧ (3 < i → 1 ≤ a ∧ a ≤ 80)) (fun i => 4 - i) 0 ⟨by simp, by simp, by simp, by simp, by simp, by simp, by simp⟩ ?_
  rintro i env A ⟨h1, h2, h3, h4, h5, h6, h7⟩
  have hp : planCode s t c a = if planOk s t c a then 0 else 2 := rfl
  rcases (by omega : i = 0 ∨ i = 1 ∨ i = 2 ∨ i = 3 ∨ i = 4) with rfl | rfl | rfl | rfl | rfl <;>
    simp -implicitDefEqProofs [q_plan_Check_L7, q_plan_Check_2, q_plan_Check_3, q_plan_Check_4, q_plan_Check_5, q_plan_Check_6, q_plan_Check_7, h2, h3, guardO_decF]
  case inr.inr.inr.inr => rw [hp, if_pos]; unfold planOk; omega
  case inl =>
    intro g hg
    exact ⟨fun hx => ⟨fun hy => by rw [hp, if_neg]; unfold planOk; omega, fun hy => lp_next 1 ⟨by simp, by simp [h2], by simp; decide, by omega, by omega, by omega, by omega⟩ (by decide)⟩,
      fun hx => by rw [hp, if_neg]; unfold planOk; omega⟩
  case inr.inl =>
    intro g hg
    exact ⟨fun hx => ⟨fun hy => by rw [hp, if_neg]; unfold planOk; omega, fun hy => lp_next 2 ⟨by simp, by simp [h2], by simp; decide, by omega, by omega, by omega, by omega⟩ (by decide)⟩,
      fun hx => by rw [hp, if_neg]; unfold planOk; omega⟩
  case inr.inr.inl =>
    intro g hg
    exact ⟨fun hx => ⟨fun hy => by rw [hp, if_neg]; unfold planOk; omega, fun hy => lp_next 3 ⟨by simp, by simp [h2], by simp; decide, by omega, by omega, by omega, by omega⟩ (by decide)⟩,
      fun hx => by rw [hp, if_neg]; unfold planOk; omega⟩
  case inr.inr.inr.inl =>
    intro g hg
    exact ⟨fun hx => ⟨fun hy => by rw [hp, if_neg]; unfold planOk; omega, fun hy => lp_next 4 ⟨by simp, by simp [h2], by simp; decide, by omega, by omega, by omega, by omega⟩ (by decide)⟩,
      fun hx => by rw [hp, if_neg]; unfold planOk; omega⟩
/-- The numbers of a layout. -/
def ixN (s : Int) : Int := (2 * s + 5) / 6
def layL (s t c a : Int) : List Int :=
  [s, t, c, a, 5, 5 + ixN s, 5 + ixN s + t, 5 + ixN s + t + c, 5 + ixN s + t + c + a, 5 + ixN s + t + c + a + 1, 5 + ixN s + t + c + a + 1 + (ixN s + 9 + t), 5 + ixN s + t + c + a + 1 + (ixN s + 9 + t) + s, ixN s * 6, ixN s + 9 + t]
def layV (l : List Int) : AV := .agg (l.map (.int .i64))
def lay0 : List Int := [0, 0, 0, 0, 0, 0, 0, 0, 0, 0, 0, 0, 0, 0]
theorem w_plan_Of_bad (s t c a : Int) (h : ¬ planOk s t c a) : Gives Try.prog F_plan_Of [planV s t c a] (.tuple [layV lay0, .int .i64 2]) := by
  refine v_plan_Of (by simp) ?_
  simp -implicitDefEqProofs +contextual [a_plan_Of, q_plan_Of_0, q_plan_Of_1, planV]
  intro g g1 hg hg1
  refine (w_plan_Check s t c a).call (.cons (.refl _) rfl .nil) rfl ?_
  simp -implicitDefEqProofs [q_plan_Of_2, q_plan_Of_3, planCode, h, layV, lay0]
set_option maxRecDepth 20000 in
theorem w_plan_Of (s t c a : Int) (h : planOk s t c a) : Gives Try.prog F_plan_Of [planV s t c a] (.tuple [layV (layL s t c a), .int .i64 0]) := by
  have hh := h
  unfold planOk at hh
  obtain ⟨⟨_, _⟩, ⟨_, _⟩, ⟨_, _⟩, _, _⟩ := hh
  refine v_plan_Of (by simp) ?_
  simp -implicitDefEqProofs +contextual [a_plan_Of, q_plan_Of_0, q_plan_Of_1, planV]
  intro g g1 hg hg1
  refine (w_plan_Check s t c a).call (.cons (.refl _) rfl .nil) rfl ?_
  simp -implicitDefEqProofs (disch := omega) [wrap_i64, Int.tdiv_eq_ediv_of_nonneg, hg, hg1, q_plan_Of_2, q_plan_Of_3, q_plan_Of_4, q_plan_Of_5, q_plan_Of_6, q_plan_Of_7, q_plan_Of_8, q_plan_Of_9, q_plan_Of_10, q_plan_Of_11, q_plan_Of_12, q_plan_Of_13, q_plan_Of_14, q_plan_Of_15, planCode, h, layV, lay0]
  intro g2 k1 k2 k3 k4
  simp -implicitDefEqProofs (disch := omega) [wrap_i64, hg, hg1, k1, k2, k3, k4]
  have e : 2 * s + 6 - 1 = 2 * s + 5 := by omega
  rw [e]
  exact ⟨by omega, fun _ => rfl⟩
end Go.Proofs.Ytgbplcelcjffdaa
