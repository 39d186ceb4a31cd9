/- The walk of TrapCatches. -/
import Derived.Test.YtgbplcelcjffdaaTb
namespace Go.Proofs.Ytgbplcelcjffdaa
open Go AVL
set_option linter.unusedVariables false
set_option linter.unusedSimpArgs false

def I64 (n : Int) : Prop := -9223372036854775808 ≤ n ∧ n < 9223372036854775808
theorem w_TrapCatches_1 (n : Int) (d : Nat) (hn : I64 n) (hd : d < 256) (g2 g3 : Nat) (A : Heap) (h2 : A g2 = some (.var T_int [.int .i64 n])) (h3 : A g3 = some (.var T_uint8 [.int .u8 d])) :
    SimX Try.prog F_law05_TrapCatches_1 [.ptr g2 0, .ptr g3 0] A fun o B => endC o (codeN n) ∧ B = A := by
  refine i_law05_TrapCatches_1 (by simp) fun R hR => ?_
  simp -implicitDefEqProofs (disch := first | omega | simp) [a_law05_TrapCatches_1, q_law05_TrapCatches_1_0, h2, h3, wrap_i64]
  refine (w_deep n hn d (by omega)).call (.cons (.refl _) rfl (.cons (.refl _) rfl .nil)) (fun o h => stepQ_noF h) ?_
  intro o ho
  have he := stepQ_end ho
  cases o with
  | ret v =>
    simp -implicitDefEqProofs
    exact hR _ _ _ ⟨A, Sub_refl A, he, rfl⟩
  | pan v =>
    simp -implicitDefEqProofs
    exact hR _ _ _ ⟨A, Sub_refl A, he, rfl⟩
theorem set_swap {A : Heap} {g h : Nat} {c d : Cont} (e : ¬ g = h) : (A.set g c).set h d = (A.set h d).set g c := by
  funext x
  simp only [set_app]
  by_cases h1 : x = g
  · subst h1; simp [e]
  · simp [h1]
theorem w_Try_pure {k : FuncId} {first cap : List AV} {A : Heap} {K Kp : AV → Heap → Prop} {Q : AOut → Prop} (hk : callable Try.prog k = true)
    (h : ∀ B, A.Sub B → SimX Try.prog k (first ++ cap) B fun o B' => Q o ∧ B' = B)
    (hQ : ∀ o, Q o → ∃ c x, endC o c ∧ (o = .ret (.int .i64 x) ∨ (∃ v, o = .pan v) ∧ x = 0) ∧ K (.tuple [.int .i64 x, .int .i64 c]) A) :
    SimX Try.prog F_trap_Try_int [.func (.func k) first cap] A (outK K Kp) := by
  refine i_trap_Try_int (by simp) fun R hR => ?_
  simp -implicitDefEqProofs +contextual [a_trap_Try_int, q_trap_Try_int_0, q_trap_Try_int_1, q_trap_Try_int_3]
  intro g1 h1 g2 k1 k2 h2
  have hsub : ∀ X Y, A.Sub ((A.set g1 X).set g2 Y) := fun X Y y z hy => by
    have n1 : y ≠ g1 := fun e => by subst e; rw [h1] at hy; cases hy
    have n2 : y ≠ g2 := fun e => by subst e; rw [h2] at hy; cases hy
    simp [n1, n2, hy]
  refine catch_of (by simp) fun gc hgc => ?_
  have hgc' := hgc
  simp only [set_none] at hgc
  obtain ⟨c1, c2, c3, c4, c5⟩ := hgc
  refine i_trap_Try_int_1 (by simp) fun R2 hR2 => ?_
  simp -implicitDefEqProofs [a_trap_Try_int_1, q_trap_Try_int_1_0, k1, k2, c1, c2, c3, c4, hk]
  refine (h _ ?_).mono ?_
  · intro x c hx
    have n1 : x ≠ g1 := fun e => by subst e; rw [h1] at hx; cases hx
    have n2 : x ≠ g2 := fun e => by subst e; rw [h2] at hx; cases hx
    have n3 : x ≠ gc := fun e => by subst e; rw [c5] at hx; cases hx
    simp [n1, n2, n3, hx]
  rintro o B ⟨hq, rfl⟩
  obtain ⟨c, x, he, hx, hKx⟩ := hQ o hq
  rcases hx with rfl | ⟨⟨v, rfl⟩, rfl⟩
  · have he : c = 0 := he
    subst he
    simp -implicitDefEqProofs [k1, k2, c1, c2, c3, c4]
    refine hR2 _ _ _ ⟨_, Sub_refl _, _, (A.set g1 (.var T_fno_c_int [.func (.func k) first cap])).set g2 (.var T_int [.int .i64 x]), rfl, by simp [c1, c2, c3, c4, c5], ?_, ?_⟩
    · rw [set_swap (c := c0) (g := gc) (h := g2) c1, set_set]
    · simp -implicitDefEqProofs [q_trap_Try_int_4, q_trap_Try_int_7, k1, k2]
      refine hR _ _ _ ?_
      simp -implicitDefEqProofs [a_trap_Try_int, fpost, outOf]
      exact ⟨A, hsub _ _, hKx⟩
  · simp -implicitDefEqProofs [k1, k2, c1, c2, c3, c4]
    refine hR2 _ _ _ ⟨_, Sub_refl _, c, (A.set g1 (.var T_fno_c_int [.func (.func k) first cap])).set g2 (.var T_int [.int .i64 0]), he, by simp [c1, c2, c3, c4, c5], rfl, ?_⟩
    simp -implicitDefEqProofs [q_trap_Try_int_4, q_trap_Try_int_5, q_trap_Try_int_6, q_trap_Try_int_7, k1, k2]
    refine ⟨fun h0 => hR _ _ _ ?_, fun h0 => hR _ _ _ ?_⟩
    · subst h0
      simp -implicitDefEqProofs [a_trap_Try_int, fpost, outOf]
      exact ⟨A, hsub _ _, hKx⟩
    · simp -implicitDefEqProofs [a_trap_Try_int, fpost, outOf]
      exact ⟨A, hsub _ _, hKx⟩
end Go.Proofs.Ytgbplcelcjffdaa
