/- The walks of the thrown steps. -/
import Derived.Test.YtgbplcelcjffdaaTa
namespace Go.Proofs.Ytgbplcelcjffdaa
open Go AVL
set_option linter.unusedVariables false
set_option linter.unusedSimpArgs false

def faultV (c : Int) : AV := .iface T_trap_Fault (.agg [.int .i64 c])
theorem w_Throw (c : Int) : Fins Try.prog F_trap_Throw [.int .i64 c] (fun o => o = .pan (faultV c)) := by
  refine e_trap_Throw (by simp) ?_
  simp -implicitDefEqProofs [a_trap_Throw, q_trap_Throw_0, faultV]
theorem w_Must (c : Int) : Fins Try.prog F_trap_Must [.int .i64 c] (fun o => o = if c = 0 then .ret (.tuple []) else .pan (faultV c)) := by
  refine e_trap_Must (by simp) ?_
  simp -implicitDefEqProofs [a_trap_Must, q_trap_Must_0, q_trap_Must_1, outOf]
  intro h
  refine (w_Throw c).call (.cons (.refl _) rfl .nil) (by rintro o rfl; rfl) ?_
  rintro o rfl
  simp -implicitDefEqProofs [h]
theorem bounds_not : ¬ (Try.prog.rt.boundsError = T_trap_Fault) := of_decide_eq_true (by kernel_rfl)
/-- How a step ends. -/
def stepQ (n : Int) (o : AOut) : Prop := if n < 0 then ∃ v, o = .pan v ∧ caughtC v = some 17 ∧ v.noF = true else o = if n = 0 then .ret (.tuple []) else .pan (faultV n)
theorem stepQ_noF {n : Int} {o : AOut} (h : stepQ n o) : o.noF = true := by
  unfold stepQ at h
  split at h
  · obtain ⟨v, rfl, _, h⟩ := h; exact h
  · subst h; split <;> rfl
theorem w_step (n : Int) (hn : -9223372036854775808 ≤ n ∧ n < 9223372036854775808) : Fins Try.prog F_law05_step [.int .i64 n] (stepQ n) := by
  refine e_law05_step (by simp) ?_
  simp -implicitDefEqProofs [a_law05_step, q_law05_step_0, q_law05_step_1, q_law05_step_2, q_law05_step_3]
  refine ⟨fun h => ?_, fun h => ?_⟩
  · have hb : ∀ v, stepQ n (.pan (.iface Try.prog.rt.boundsError (.agg [.int .i64 v, .int .i64 0, .bool false, .int .u8 0]))) ∧ stepQ n (.pan (.iface Try.prog.rt.boundsError (.agg [.int .i64 v, .int .i64 0, .bool true, .int .u8 0]))) := fun v => by
      simp [stepQ, h, caughtC, AV.noF, AV.noFs, T_trap_Fault]
    exact hb _
  · refine (w_Must n).call (.cons (.refl _) rfl .nil) (by rintro o rfl; split <;> rfl) ?_
    rintro o rfl
    by_cases h0 : n = 0
    · simp [h0, stepQ, outOf]
    · simp [h0, stepQ, outOf]; omega
theorem stepQ_ret {n : Int} {v : AV} (h : stepQ n (.ret v)) : n = 0 ∧ v = .tuple [] := by
  unfold stepQ at h
  split at h
  · obtain ⟨_, h, _⟩ := h; cases h
  · split at h
    · injection h with h; exact ⟨by assumption, h⟩
    · cases h
theorem w_deep (n : Int) (hn : -9223372036854775808 ≤ n ∧ n < 9223372036854775808) : ∀ d : Nat, d < 1000 → Fins Try.prog F_law05_deep [.int .i64 n, .int .i64 d] (stepQ n)
  | 0, _ => by
    refine e_law05_deep (by simp) ?_
    simp -implicitDefEqProofs [a_law05_deep, q_law05_deep_0, q_law05_deep_1, q_law05_deep_2]
    refine (w_step n hn).call (.cons (.refl _) rfl .nil) (fun o h => stepQ_noF h) ?_
    intro o ho
    cases o with
    | ret v =>
      obtain ⟨h0, rfl⟩ := stepQ_ret ho
      simpa [outOf] using ho
    | pan v => simpa using ho
  | d + 1, hd => by
    refine e_law05_deep (by simp) ?_
    have e1 : ((d + 1 : Nat) : Int) - 1 = (d : Int) := by omega
    simp -implicitDefEqProofs (disch := first | omega | simp) [a_law05_deep, q_law05_deep_0, q_law05_deep_1, q_law05_deep_2, wrap_i64, e1, -Int.natCast_add]
    refine (w_deep n hn d (by omega)).call (.cons (.refl _) rfl (.cons (.refl _) rfl .nil)) (fun o h => stepQ_noF h) ?_
    intro o ho
    cases o with
    | ret v =>
      obtain ⟨h0, rfl⟩ := stepQ_ret ho
      simpa [outOf] using ho
    | pan v => simpa using ho
/-- The code of a step. -/
def codeN (n : Int) : Int := if n < 0 then 17 else n
theorem stepQ_end {n : Int} {o : AOut} (h : stepQ n o) : endC o (codeN n) := by
  unfold stepQ at h
  unfold codeN
  split at h
  · rename_i hn
    obtain ⟨v, rfl, h, _⟩ := h
    rw [if_pos hn]; exact h
  · rename_i hn
    rw [if_neg hn]
    split at h
    · rename_i h0; subst h; subst h0; rfl
    · subst h; simp [endC, caughtC, faultV]
theorem w_ref05_Code (n : Int) : Gives Try.prog F_ref05_Code [.int .i64 n] (.int .i64 (codeN n)) := by
  refine v_ref05_Code (by simp) ?_
  simp -implicitDefEqProofs [a_ref05_Code, q_ref05_Code_0, q_ref05_Code_1, q_ref05_Code_2, q_ref05_Code_3]
  exact ⟨fun h => by rw [codeN, if_pos h], fun h => by rw [codeN, if_neg (by omega)]⟩
theorem sub_none {A : Heap} {g : Nat} {c : Cont} (h : A g = none) : A.Sub (A.set g c) := fun x y hx => by
  rw [set_app]; split
  · rename_i e; subst e; rw [h] at hx; cases hx
  · exact hx
/-- Catch, of a function that leaves Catch's own cell alone. -/
theorem catch_of {k : FuncId} {first cap : List AV} {A : Heap} {K Kp : AV → Heap → Prop} (hk : callable Try.prog k = true)
    (h : ∀ g, A g = none → SimX Try.prog k (first ++ cap) (A.set g c0) fun o B => ∃ c A', endC o c ∧ A' g = none ∧ B = A'.set g c0 ∧ K (.int .i64 c) A') :
    SimX Try.prog F_trap_Catch [.func (.func k) first cap] A (outK K Kp) :=
  w_Catch hk fun g hg => (h g hg).mono fun o B ⟨c, A', h1, h2, h3, h4⟩ => ⟨c, h1, by rw [h3]; simp, A', by rw [h3, set_same_c]; exact sub_none h2, h4⟩
/-- A call that leaves memory as it is, at a function's end. -/
theorem Fins.last {P : Program} {f : FuncId} {args args' : List AV} {Q : AOut → Prop} {A : Heap} {K : AOut → Heap → Prop} (h : Fins P f args' Q) (hv : VwL A args args') (hn : ∀ o, Q o → o.noF = true) (hk : ∀ o, Q o → K o A) : SimX P f args A K :=
  SimX.view h hv (fun o B ⟨h1, h2⟩ => by subst h2; exact ⟨hn o h1, fun g c hc => by cases hc⟩) (fun o B ⟨h1, h2⟩ _ => by subst h2; rw [join_H0]; exact hk o h1)
end Go.Proofs.Ytgbplcelcjffdaa
