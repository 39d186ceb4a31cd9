/- The walk of TrapNests. -/
import Derived.Test.YtgbplcelcjffdaaTf
namespace Go.Proofs.Ytgbplcelcjffdaa
open Go AVL
set_option linter.unusedVariables false
set_option linter.unusedSimpArgs false

theorem set_ext {A B : Heap} (h : ∀ x, A x = B x) : A = B := funext h
theorem w_law05_TrapNests (n m : Int) (hn : I64 n) (hm : I64 m) : Gives Try.prog F_law05_TrapNests [.int .i64 n, .int .i64 m] (.bool true) := by
  refine v_law05_TrapNests (by simp) ?_
  simp -implicitDefEqProofs +contextual [a_law05_TrapNests, q_law05_TrapNests_0, q_law05_TrapNests_1, q_law05_TrapNests_2, q_law05_TrapNests_3]
  intro g2 g3 k1 k2 g5 k3 k4 k5 k6 g6 k7 k8 k9 k10 k11 k12
  refine catch_of (by simp) fun gc hgc => ?_
  simp only [set_none] at hgc
  obtain ⟨c1, c2, c3, c4, c5, c6, c7, c8, c9⟩ := hgc
  refine i_law05_TrapNests_1 (by simp) fun R hR => ?_
  simp -implicitDefEqProofs [a_law05_TrapNests_1, q_law05_TrapNests_1_0]
  refine w_Always (first := []) (by simp) (by simp) ?_
  refine i_law05_TrapNests_1_1 (by simp) fun R2 hR2 => ?_
  simp -implicitDefEqProofs [a_law05_TrapNests_1_1, q_law05_TrapNests_1_1_0]
  refine catch_of (first := []) (by simp) fun gd hgd => ?_
  have hgd0 := hgd
  simp only [set_none] at hgd
  obtain ⟨d1, d2, d3, d4, d5, d6, d7, d8, d9, d10, d11⟩ := hgd
  refine i_law05_TrapNests_1_1_1 (by simp) fun R3 hR3 => ?_
  simp -implicitDefEqProofs [a_law05_TrapNests_1_1_1, q_law05_TrapNests_1_1_1_0, k1, k2, k3, k4, k5, k6, k7, k8, k9, k10, k11, k12, c1, c2, c3, c4, c5, c6, c7, c8, c9, d1, d2, d3, d4, d5, d6, d7, d8, d9, d10, d11]
  refine (w_step n hn).call (.cons (.refl _) rfl .nil) (fun o h => stepQ_noF h) ?_
  intro o ho
  have he := stepQ_end ho
  have key : KV Try.prog R2 (some 5) [⟨none, .store .sc 1 (.t 1) (.t 5), none⟩] (.thn (.seq (.region q_law05_TrapNests_1_1_1) (.region q_law05_TrapNests_1_1_2)) .done)
      (upd (env0 [.ptr g2 0, .ptr g6 0, .ptr g3 0, .ptr g5 0]) 4 (.func (.func F_law05_TrapNests_1_1_1) [] [.ptr g2 0])) (.int .i64 (codeN n))
      (((((H0.set g2 (.var 3 [.int .i64 n])).set g3 (.var 3 [.int .i64 m])).set g5 (.var 3 [.int .i64 0])).set g6 (.var 36 [.int .i64 0])).set gc c0) := by
    clear hR3 ho he hgd0
    simp -implicitDefEqProofs [q_law05_TrapNests_1_1_1, k1, k2, k3, k4, k5, k6, k7, k8, k9, k10, k11, k12, c1, c2, c3, c4, c5, c6, c7, c8, c9]
    refine (w_step m hm).call (.cons (.refl _) rfl .nil) (fun o h => stepQ_noF h) ?_
    intro o ho
    have he := stepQ_end ho
    -- what Catch is told, and all behind it
    have fin : ∀ (ord : Int) (B : Heap) (o : AOut), endC o (codeN m) → ((m = 0 ∧ ord = 11) ∨ (m ≠ 0 ∧ ord = 1)) → B = (((((H0.set g2 (.var 3 [.int .i64 n])).set g3 (.var 3 [.int .i64 m])).set g5 (.var 3 [.int .i64 ord])).set g6 (.var 36 [.int .i64 (codeN n)])).set gc c0) →
        ∃ c A', endC o c ∧ A' gc = none ∧ B = A'.set gc c0 ∧ KV Try.prog (fin [ARes.tmp 4] (AV.bool true)) (some 10) [⟨some 7, .mv (.t 10), none⟩]
          (.thn (.seq (.region q_law05_TrapNests_4) (.seq (.seq (.region q_law05_TrapNests_5) (.cond (.t 12) (.region q_law05_TrapNests_6) .skip)) (.seq (.regionD q_law05_TrapNests_7) .ret))) .done)
          (upd (upd (upd (upd (upd (upd (env0 [.int .i64 n, .int .i64 m]) 2 (.ptr g2 0)) 3 (.ptr g3 0)) 4 (.bool false)) 5 (.ptr g5 0)) 6 (.ptr g6 0)) 9 (.func (.func F_law05_TrapNests_1) [] [.ptr g2 0, .ptr g6 0, .ptr g3 0, .ptr g5 0])) (.int .i64 c) A' := by
      intro ord B o ho hord hB
      refine ⟨codeN m, _, ho, ?_, hB, ?_⟩
      · simp [c1, c2, c3, c4, c5, c6, c7, c8, c9]
      · simp -implicitDefEqProofs [q_law05_TrapNests_4, q_law05_TrapNests_5, q_law05_TrapNests_6, k1, k2, k3, k4, k5, k6, k7, k8, k9, k10, k11, k12]
        rcases hord with ⟨rfl, rfl⟩ | ⟨hm0, rfl⟩
        · simp -implicitDefEqProofs [q_law05_TrapNests_7, k1, k2, k3, k4, k5, k6, k7, k8, k9, k10, k11, k12]
          refine (w_ref05_Code n).call (.cons (.refl _) rfl .nil) rfl ?_
          simp -implicitDefEqProofs [k1, k2, k3, k4, k5, k6, k7, k8, k9, k10, k11, k12, Sub_refl]
          refine (w_ref05_Code 0).call (.cons (.refl _) rfl .nil) rfl ?_
          simp -implicitDefEqProofs [k1, k2, k3, k4, k5, k6, k7, k8, k9, k10, k11, k12, Sub_refl]
          refine w_law05_works.call .nil rfl ?_
          simp -implicitDefEqProofs
        · simp -implicitDefEqProofs [q_law05_TrapNests_7, hm0, k1, k2, k3, k4, k5, k6, k7, k8, k9, k10, k11, k12]
          refine (w_ref05_Code n).call (.cons (.refl _) rfl .nil) rfl ?_
          simp -implicitDefEqProofs [k1, k2, k3, k4, k5, k6, k7, k8, k9, k10, k11, k12, Sub_refl]
          refine (w_ref05_Code m).call (.cons (.refl _) rfl .nil) rfl ?_
          simp -implicitDefEqProofs [k1, k2, k3, k4, k5, k6, k7, k8, k9, k10, k11, k12, Sub_refl]
          refine w_law05_works.call .nil rfl ?_
          simp -implicitDefEqProofs
    have last : ∀ (B : Heap) (x : Int), B g5 = some (.var 3 [.int .i64 x]) → IntKind.i64.wrap (x + 1) = x + 1 → SimD Try.prog F_law05_TrapNests_1_2 [.ptr g5 0] B fun o B' => (∃ v, o = .ret v) ∧ B' = B.set g5 (.var 3 [.int .i64 (x + 1)]) := by
      intro B x hB hw
      refine d_law05_TrapNests_1_2 (by simp) fun R hR => ?_
      simp -implicitDefEqProofs [a_law05_TrapNests_1_2, q_law05_TrapNests_1_2_0, hB, hw]
      exact hR _ _ _ ⟨_, Sub_refl _, ⟨_, rfl⟩, rfl⟩
    cases o with
    | ret v =>
      obtain ⟨h0, rfl⟩ := stepQ_ret ho
      have w10 : IntKind.i64.wrap 10 = 10 := by decide
      simp -implicitDefEqProofs [q_law05_TrapNests_1_1_2, k1, k2, k3, k4, k5, k6, k7, k8, k9, k10, k11, k12, c1, c2, c3, c4, c5, c6, c7, c8, c9, w10]
      refine hR2 _ _ _ ⟨_, Sub_refl _, ?_⟩
      refine (last _ 10 (by simp) (by decide)).mono ?_
      rintro o B ⟨⟨v, rfl⟩, rfl⟩
      refine ⟨⟨_, rfl⟩, ?_⟩
      simp -implicitDefEqProofs
      refine hR _ _ _ ⟨_, Sub_refl _, fin 11 _ _ (by rw [h0]; rfl) (.inl ⟨h0, rfl⟩) ?_⟩
      funext x
      simp only [set_app]
      by_cases x1 : x = gc
      · subst x1; simp [c1, c2, c3, c4, c5, c6, c7, c8, c9]
      by_cases x2 : x = g6
      · subst x2; simp [k1, k2, k3, k4, k5, k6, k7, k8, k9, k10, k11, k12, c1, c2, c3, c4, c5, c6, c7, c8, c9]
      by_cases x3 : x = g5
      · subst x3; simp [k1, k2, k3, k4, k5, k6, k7, k8, k9, k10, k11, k12, c1, c2, c3, c4, c5, c6, c7, c8, c9]
      simp [x1, x2, x3]
    | pan v =>
      have h0 : m ≠ 0 := fun e => by subst e; simp [stepQ] at ho
      simp -implicitDefEqProofs
      refine hR2 _ _ _ ⟨_, Sub_refl _, ?_⟩
      refine (last _ 0 (by simp [k1, k2, k3, k4, k5, k6, k7, k8, k9, k10, k11, k12, c1, c2, c3, c4, c5, c6, c7, c8, c9]) (by decide)).mono ?_
      rintro o B ⟨⟨w, rfl⟩, rfl⟩
      refine ⟨⟨_, rfl⟩, ?_⟩
      simp -implicitDefEqProofs
      refine hR _ _ _ ⟨_, Sub_refl _, fin 1 _ _ he (.inr ⟨h0, rfl⟩) ?_⟩
      funext x
      simp only [set_app]
      by_cases x1 : x = gc
      · subst x1; simp [c1, c2, c3, c4, c5, c6, c7, c8, c9]
      by_cases x2 : x = g6
      · subst x2; simp [k1, k2, k3, k4, k5, k6, k7, k8, k9, k10, k11, k12, c1, c2, c3, c4, c5, c6, c7, c8, c9]
      by_cases x3 : x = g5
      · subst x3; simp [k1, k2, k3, k4, k5, k6, k7, k8, k9, k10, k11, k12, c1, c2, c3, c4, c5, c6, c7, c8, c9]
      simp [x1, x2, x3]
  cases o with
  | ret v =>
    simp -implicitDefEqProofs
    exact hR3 _ _ _ ⟨_, Sub_refl _, codeN n, _, he, hgd0, rfl, key⟩
  | pan v =>
    simp -implicitDefEqProofs
    exact hR3 _ _ _ ⟨_, Sub_refl _, codeN n, _, he, hgd0, rfl, key⟩
end Go.Proofs.Ytgbplcelcjffdaa
