/- The walk of the trap's works. -/
import Derived.Test.YtgbplcelcjffdaaTd
namespace Go.Proofs.Ytgbplcelcjffdaa
open Go AVL
set_option linter.unusedVariables false
set_option linter.unusedSimpArgs false

theorem w_Catch_nil {A : Heap} {K Kp : AV → Heap → Prop} (hK : K (.int .i64 1) A) : SimX Try.prog F_trap_Catch [.nilF] A (outK K Kp) := by
  intro E w cargs hR hT
  obtain ⟨pre0, pre1, rest, id, o1, o2, hb, hp0, hp1, h1, h1g, h1d, h2, h2g, h2d, hrest⟩ := shape_Catch
  refine calls_of_wp_defers g_trap_Catch hb ?_
  rw [n_trap_Catch]
  obtain ⟨hl, he⟩ := env0_ok (E := E) (D := []) (n := 8) hT (by simp)
  have ha : ({ tmps := cargs ++ Array.replicate (8 - cargs.size) undef, defers := [] } : Act).tmps.size = 8 := by simp at hl; simp; omega
  refine wp_seq (wp_mono (aw_ok (D := []) _ _ hp0 (fun ae env B => ae = .normal ∧ ∃ g, A g = none ∧ env 0 = .nilF ∧ env 2 = .ptr g 0 ∧ B = A.set g c0) _ A ?_ E _ w hR he ha rfl) ?_)
  · show X Try.prog _ _ .done _ A
    simp -implicitDefEqProofs
    intro g hg
    exact ⟨g, by simp [hg, c0]⟩
  rintro e a1 w1 ⟨ae, env1, A1, E1, ⟨rfl, g, hg, e0, e2, rfl⟩, hx, hR1, he1, hE1, hS1, ha1, hd1⟩
  cases hx
  refine wp_seq (wp_mono (aw_ok (D := []) _ _ hp1 (fun ae env B => ae = .ret ∧ env 2 = .ptr g 0 ∧ B = A.set g (.var T_api_Code [.int .i64 1])) _ _ ?_ E1 _ w1 hR1 he1 ha1 hd1) ?_)
  · show X Try.prog _ _ .done _ _
    simp -implicitDefEqProofs [e0, e2, c0]
  rintro e a2 w2 ⟨ae, env2, A2, E2, ⟨rfl, f2, rfl⟩, hx, hR2, he2, hE2, hS2, ha2, hd2⟩
  cases hx
  show Leaves Try.prog Try.f21 a2.tmps _ a2.defers .returning w2
  rw [hd2]
  obtain ⟨vs, cs, hvs, hrs, hTs⟩ := aress_ok hR2 he2 Try.f21.results.toList _ (fun vs => vs = [.int .i64 1]) res_Catch (by simp -implicitDefEqProofs [f2])
  subst hvs
  exact ⟨_, run_results hrs, .ret (.int .i64 1), A, E2, hK, hR2.sub (sub_none hg), hE1.trans hE2, hS1.trans hS2, _, rfl, out_ok hTs⟩

theorem st_works_1 (A : Heap) : Still A (.func (.func F_law05_works_1) [] []) 6 := by
  refine still_of (by simp) fun B _ => i_law05_works_1 (by simp) fun R hR => ?_
  simp -implicitDefEqProofs [a_law05_works_1, q_law05_works_1_0]
  refine (w_Throw 6).call (.cons (.refl _) rfl .nil) (by rintro o rfl; rfl) ?_
  rintro o rfl
  simp -implicitDefEqProofs
  exact hR _ _ _ ⟨B, Sub_refl B, by simp [endC, caughtC, faultV], rfl⟩
theorem st_works_7 (A : Heap) : Still A (.func (.func F_law05_works_7) [] []) 10 := by
  refine still_of (by simp) fun B _ => i_law05_works_7 (by simp) fun R hR => ?_
  simp -implicitDefEqProofs [a_law05_works_7, q_law05_works_7_0]
  refine (w_Throw 10).call (.cons (.refl _) rfl .nil) (by rintro o rfl; rfl) ?_
  rintro o rfl
  simp -implicitDefEqProofs
  exact hR _ _ _ ⟨B, Sub_refl B, by simp [endC, caughtC, faultV], rfl⟩
theorem st_works_2 (A : Heap) : Still A (.func (.func F_law05_works_2) [] []) 17 := by
  refine still_of (by simp) fun B _ => i_law05_works_2 (by simp) fun R hR => ?_
  simp -implicitDefEqProofs [a_law05_works_2, q_law05_works_2_0]
  refine (w_step (-1) (by decide)).call (.cons (.refl _) rfl .nil) (fun o h => stepQ_noF h) ?_
  intro o ho
  have he := stepQ_end ho
  cases o with
  | ret v => exact absurd (stepQ_ret ho).1 (by decide)
  | pan v =>
    simp -implicitDefEqProofs
    exact hR _ _ _ ⟨B, Sub_refl B, he, rfl⟩
theorem st_works_6 (A : Heap) : Still A (.func (.func F_law05_works_6) [] []) 0 := by
  refine still_of (by simp) fun B _ => i_law05_works_6 (by simp) fun R hR => ?_
  simp -implicitDefEqProofs [a_law05_works_6]
  exact hR _ _ _ ⟨B, Sub_refl B, rfl, rfl⟩
theorem d_works_8_2 {B : Heap} {g : Nat} {b : Bool} (hg : B g = some (.var T_bool [.bool b])) : SimD Try.prog F_law05_works_8_2 [.ptr g 0] B fun o B' => (∃ v, o = .ret v) ∧ B' = B.set g (.var T_bool [.bool true]) := by
  refine d_law05_works_8_2 (by simp) fun R hR => ?_
  simp -implicitDefEqProofs [a_law05_works_8_2, q_law05_works_8_2_0, hg]
  exact hR _ _ _ ⟨_, Sub_refl _, ⟨_, rfl⟩, rfl⟩
theorem w_law05_works : Gives Try.prog F_law05_works [] (.bool true) := by
  refine v_law05_works (by simp) ?_
  simp -implicitDefEqProofs [a_law05_works, q_law05_works_0, q_law05_works_1]
  refine catch_still (st_works_1 _) ?_
  simp -implicitDefEqProofs [q_law05_works_2]
  refine catch_still (st_works_2 _) ?_
  simp -implicitDefEqProofs [q_law05_works_3]
  refine w_Catch_nil ?_
  simp -implicitDefEqProofs [q_law05_works_4]
  refine w_Try_pure (by simp) (Q := fun o => o = .ret (.int .i64 7)) (fun B hB => ?_) ?_
  · refine i_law05_works_3 (by simp) fun R hR => ?_
    simp -implicitDefEqProofs [a_law05_works_3, q_law05_works_3_0, q_law05_works_3_1]
    exact hR _ _ _ ⟨B, Sub_refl B, rfl, rfl⟩
  rintro o rfl
  refine ⟨0, 7, rfl, .inl rfl, ?_⟩
  simp -implicitDefEqProofs [q_law05_works_5]
  refine w_Try_pure (by simp) (Q := fun o => o = .pan (faultV 12)) (fun B hB => ?_) ?_
  · refine i_law05_works_4 (by simp) fun R hR => ?_
    simp -implicitDefEqProofs [a_law05_works_4, q_law05_works_4_0, q_law05_works_4_1]
    refine (w_Must 12).call (.cons (.refl _) rfl .nil) (by rintro o rfl; split <;> rfl) ?_
    rintro o rfl
    simp -implicitDefEqProofs
    exact hR _ _ _ ⟨B, Sub_refl B, rfl, rfl⟩
  rintro o rfl
  refine ⟨12, 0, by simp [endC, caughtC, faultV], .inr ⟨⟨_, rfl⟩, rfl⟩, ?_⟩
  simp -implicitDefEqProofs [q_law05_works_6]
  refine w_Each (n := 3) (A := fun _ => H0) (Q := fun i o => stepQ (if i < 2 then 0 else 5) o) (by simp) (by decide) (fun _ _ => Iff.rfl) (fun i hi B hB => ?_) ?_ ?_ ?_
  · refine i_law05_works_5 (by simp) fun R hR => ?_
    have e : IntKind.i64.wrap (IntKind.i64.wrap ((i : Int) / 2) * 5) = if i < 2 then 0 else 5 := by
      rcases (by omega : i = 0 ∨ i = 1 ∨ i = 2) with rfl | rfl | rfl <;> decide
    simp -implicitDefEqProofs [a_law05_works_5, q_law05_works_5_0, e]
    refine (w_step _ (by split <;> decide)).call (.cons (.refl _) rfl .nil) (fun o h => stepQ_noF h) ?_
    intro o ho
    cases o with
    | ret v =>
      have hv := stepQ_ret ho
      simp -implicitDefEqProofs
      exact hR _ _ _ ⟨B, Sub_refl B, by simpa [outOf, hv.2] using ho, fun _ _ => rfl, fun _ => hB, fun _ => hB⟩
    | pan v =>
      simp -implicitDefEqProofs
      exact hR _ _ _ ⟨B, Sub_refl B, ho, fun _ _ => rfl, fun _ => hB, fun _ => hB⟩
  · intro i v h
    exact ⟨_, stepQ_end h⟩
  · intro h
    obtain ⟨v, hv⟩ := h 2 (by omega)
    exact absurd (stepQ_ret hv).1 (by decide)
  intro i v c hi hlow ho hc
  have h2 := stepQ_end ho
  have : i = 2 := by
    rcases (by omega : i = 0 ∨ i = 1 ∨ i = 2) with rfl | rfl | rfl
    · simp [stepQ] at ho
    · simp [stepQ] at ho
    · rfl
  subst this
  have hc5 : c = 5 := by
    have h3 : caughtC v = some (codeN 5) := h2
    rw [hc] at h3
    injection h3
  subst hc5
  simp -implicitDefEqProofs [q_law05_works_7]
  intro g
  refine w_First (fs := [.func (.func F_law05_works_6) [] [], .func (.func F_law05_works_7) [] [], .nilF]) (m := 1) (c := 10) set_eq' (by decide) (by decide) ?_ (.inr ⟨by decide, by decide, st_works_7 _⟩) ?_
  · intro j hj h1
    have : j = 0 := by omega
    subst this
    exact st_works_6 _
  simp -implicitDefEqProofs +contextual [q_law05_works_8, q_law05_works_9]
  intro g2 k1 k2
  refine catch_of (by simp) fun gc hgc => ?_
  simp only [set_none] at hgc
  obtain ⟨c1, c2, c3, c4, c5⟩ := hgc
  refine i_law05_works_8 (by simp) fun R hR => ?_
  simp -implicitDefEqProofs [a_law05_works_8, q_law05_works_8_0]
  refine w_Always (first := []) (cap := []) (by simp) (by simp) ?_
  refine i_law05_works_8_1 (by simp) fun R2 hR2 => ?_
  simp -implicitDefEqProofs [a_law05_works_8_1, q_law05_works_8_1_0]
  refine (w_Throw 11).call (.cons (.refl _) rfl .nil) (by rintro o rfl; rfl) ?_
  rintro o rfl
  simp -implicitDefEqProofs
  refine hR2 _ _ _ ⟨_, Sub_refl _, ?_⟩
  refine (d_works_8_2 (b := false) (by simp [c1, c2, c3, c4])).mono ?_
  rintro o B ⟨⟨v, rfl⟩, rfl⟩
  refine ⟨⟨_, rfl⟩, ?_⟩
  simp -implicitDefEqProofs
  refine hR _ _ _ ⟨_, Sub_refl _, 11, (H0.set g (.row 1 1 [.func (.func F_law05_works_6) [] [], .func (.func F_law05_works_7) [] [], .nilF])).set g2 (.var T_bool [.bool true]), by simp [endC, caughtC, faultV], by simp [c1, c2, c3, c4], ?_, ?_⟩
  · rw [set_swap (c := c0) (g := gc) (h := g2) c1, set_set]
  · simp -implicitDefEqProofs [q_law05_works_10]
end Go.Proofs.Ytgbplcelcjffdaa
