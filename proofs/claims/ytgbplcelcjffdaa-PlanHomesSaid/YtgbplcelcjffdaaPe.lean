/- The walk of the plan's works. -/
import Derived.Test.YtgbplcelcjffdaaPd
namespace Go.Proofs.Ytgbplcelcjffdaa
open Go AVL
set_option linter.unusedVariables false
set_option linter.unusedSimpArgs false

theorem works_of : Gives Try.prog F_plan_Of [planV 10 4 3 5] (.tuple [layV [10, 4, 3, 5, 5, 9, 13, 16, 21, 22, 39, 49, 24, 17], .int .i64 0]) := w_plan_Of 10 4 3 5 (by decide)
theorem works_bad : Gives Try.prog F_plan_Of [planV 10 0 0 0] (.tuple [layV [0, 0, 0, 0, 0, 0, 0, 0, 0, 0, 0, 0, 0, 0], .int .i64 2]) := w_plan_Of_bad 10 0 0 0 (by decide)
theorem works_check : Gives Try.prog F_plan_Check [planV 0 0 0 0] (.int .i64 2) := w_plan_Check 0 0 0 0
def LW : List Int := [10, 4, 3, 5, 5, 9, 13, 16, 21, 22, 39, 49, 24, 17]
theorem works_head : Gives Try.prog F_plan_Layout_Part [layV LW, .int .i64 21] (.str wHead) := w_plan_Layout_Part 10 4 3 5 5 9 13 16 21 22 39 49 24 17 21
theorem works_none : Gives Try.prog F_plan_Layout_Part [layV LW, .int .i64 49] (.str ⟨#[]⟩) := w_plan_Layout_Part 10 4 3 5 5 9 13 16 21 22 39 49 24 17 49
theorem works_h20 : Gives Try.prog F_plan_Layout_Home [layV LW, .int .i64 20] (.bool true) := w_plan_Layout_Home 10 4 3 5 5 9 13 16 21 22 39 49 24 17 20
theorem works_h21 : Gives Try.prog F_plan_Layout_Home [layV LW, .int .i64 21] (.bool false) := w_plan_Layout_Home 10 4 3 5 5 9 13 16 21 22 39 49 24 17 21
theorem works_bound : Gives Try.prog F_plan_Layout_Bound [layV LW] (.int .i64 11) := w_plan_Layout_Bound 10 4 3 5 5 9 13 16 21 22 39 49 24 17 (by decide)
theorem works_same : Gives Try.prog F_plan_Same [layV LW, layV LW] (.bool true) := by
  have := w_plan_Same 10 4 3 5 5 9 13 16 21 22 39 49 24 17 10 4 3 5 5 9 13 16 21 22 39 49 24 17
  simpa [LW] using this
set_option maxRecDepth 8000 in
theorem w_law07_works : Gives Try.prog F_law07_works [] (.bool true) := by
  refine v_law07_works (by simp) ?_
  simp -implicitDefEqProofs [a_law07_works, q_law07_works_0, q_law07_works_1]
  refine works_of.call (.cons (.refl _) rfl .nil) rfl ?_
  simp -implicitDefEqProofs [layV, q_law07_works_2]
  intro g
  refine works_bad.call (.cons (.refl _) rfl .nil) rfl ?_
  simp -implicitDefEqProofs +contextual [q_law07_works_3, layV]
  intro g1 k1 k2
  refine works_head.call (.cons (.refl _) rfl (.cons (.refl _) rfl .nil)) rfl ?_
  simp -implicitDefEqProofs [k1, k2]
  refine works_none.call (.cons (.refl _) rfl (.cons (.refl _) rfl .nil)) rfl ?_
  simp -implicitDefEqProofs [k1, k2]
  refine works_h20.call (.cons (.refl _) rfl (.cons (.refl _) rfl .nil)) rfl ?_
  simp -implicitDefEqProofs [k1, k2]
  refine works_h21.call (.cons (.refl _) rfl (.cons (.refl _) rfl .nil)) rfl ?_
  simp -implicitDefEqProofs [k1, k2]
  refine works_bound.call (.cons (.refl _) rfl .nil) rfl ?_
  simp -implicitDefEqProofs [k1, k2]
  refine works_same.call (.cons (.refl _) rfl (.cons (.refl _) rfl .nil)) rfl ?_
  simp -implicitDefEqProofs [k1, k2]
  refine works_check.call (.cons (.refl _) rfl .nil) rfl ?_
  simp -implicitDefEqProofs [k1, k2]
end Go.Proofs.Ytgbplcelcjffdaa
