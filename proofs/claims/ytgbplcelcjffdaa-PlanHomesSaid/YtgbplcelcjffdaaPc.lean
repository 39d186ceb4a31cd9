/- The walks of the plan's reference. -/
import Derived.Test.YtgbplcelcjffdaaPb
namespace Go.Proofs.Ytgbplcelcjffdaa
open Go AVL
set_option linter.unusedVariables false
set_option linter.unusedSimpArgs false

theorem w_ref07_Index (s t c a : Int) (hs : 0 ≤ s ∧ s ≤ 1000) : Gives Try.prog F_ref07_Index [planV s t c a] (.int .i64 (ixN s)) := by
  refine v_ref07_Index (by simp) ?_
  simp -implicitDefEqProofs [a_ref07_Index, q_ref07_Index_0, q_ref07_Index_1, planV]
  intro g
  have hx : ixN s = (2 * s + 5) / 6 := rfl
  refine X_lp (fun (n : Nat) env A => (n : Int) ≤ ixN s ∧ env 1 = .ptr g 0 ∧ env 3 = .int .i64 n ∧ A = H0.set g (.var 53 [.int .i64 s, .int .i64 t, .int .i64 c, .int .i64 a])) (fun n => (ixN s).toNat - n) 0 ⟨by omega, by simp, by simp, rfl⟩ ?_
  rintro n env A ⟨h1, h2, h3, rfl⟩
  simp -implicitDefEqProofs (disch := first | omega | simp) [q_ref07_Index_L4, q_ref07_Index_2, q_ref07_Index_3, q_ref07_Index_4, h2, h3, wrap_i64]
  exact ⟨fun hlt => lp_next (n + 1) ⟨by omega, by simp [h2], by simp, rfl⟩ (by omega), fun hge => by omega⟩
/-- Where a word begins. -/
def firstI (w : ByteArray) : List ByteArray → Int
  | [] => -1
  | x :: r => if x = w then 0 else if firstI w r < 0 then -1 else firstI w r + 1
theorem firstI_ge (w : ByteArray) : ∀ l, -1 ≤ firstI w l
  | [] => by simp [firstI]
  | x :: r => by
    have := firstI_ge w r
    simp only [firstI]
    split
    · omega
    · split <;> omega
theorem w_ref07_First (l : List ByteArray) (w : ByteArray) (hl : l.length < 2 ^ 40) : Gives Try.prog F_ref07_First [.dsl 1 (l.map .str), .str w] (.int .i64 (firstI w l)) := by
  refine v_ref07_First (by simp) ?_
  simp -implicitDefEqProofs [a_ref07_First, q_ref07_First_0, q_ref07_First_1]
  refine X_lp (fun (n : Nat) env A => n ≤ l.length ∧ env 0 = .dsl 1 (l.map .str) ∧ env 1 = .str w ∧ env 5 = .int .i64 n ∧ (firstI w l = if firstI w (l.drop n) < 0 then -1 else n + firstI w (l.drop n))) (fun n => l.length - n) 0 ⟨by omega, by simp, by simp, by simp, ?_⟩ ?_
  · have := firstI_ge w l
    simp only [List.drop_zero]; split <;> omega
  rintro n env A ⟨h1, h2, h3, h4, h5⟩
  simp -implicitDefEqProofs (disch := first | omega | simp) [q_ref07_First_L6, q_ref07_First_2, q_ref07_First_3, q_ref07_First_4, q_ref07_First_5, q_ref07_First_6, h2, h3, h4, wrap_i64]
  refine ⟨fun hn => ⟨hn, fun he => ?_, fun he => lp_next (n + 1) ⟨by omega, by simp [h2], by simp [h3], by simp, ?_⟩ (by omega)⟩, fun hn => ?_⟩
  · rw [h5, List.drop_eq_getElem_cons hn, firstI, if_pos he]; simp
  · rw [h5, List.drop_eq_getElem_cons hn, firstI, if_neg he]
    have := firstI_ge w (l.drop (n + 1))
    by_cases hx : firstI w (l.drop (n + 1)) < 0
    · simp [hx]
    · rw [if_neg hx, if_neg (by omega), if_neg hx]; omega
  · have : n = l.length := by omega
    subst this
    rw [h5, List.drop_length]; simp [firstI]
end Go.Proofs.Ytgbplcelcjffdaa
