/- Each and First, of functions that are known. -/
import Derived.Test.YtgbplcelcjffdaaTc
namespace Go.Proofs.Ytgbplcelcjffdaa
open Go AVL
set_option linter.unusedVariables false
set_option linter.unusedSimpArgs false

theorem w_Each {k n : Nat} {first cap : List AV} {A : Nat → Heap} {K Kp : AV → Heap → Prop} {Q : Nat → AOut → Prop} (hk : callable Try.prog k = true) (hn : n < 2 ^ 40)
    (hdom : ∀ i x, A i x = none ↔ A 0 x = none)
    (hcl : ∀ i, i < n → ∀ B, (A i).Sub B → SimX Try.prog k (first ++ .int .i64 i :: cap) B fun o B' => Q i o ∧ (∀ x, A 0 x = none → B' x = B x) ∧ ((∃ v, o = .ret v) → (A (i + 1)).Sub B') ∧ ((∃ v, o = .pan v) → (A i).Sub B'))
    (hcode : ∀ i v, Q i (.pan v) → ∃ c, caughtC v = some c)
    (hK : (∀ j, j < n → ∃ v, Q j (.ret v)) → K (.tuple [.int .i64 n, .int .i64 0]) (A n))
    (hKp : ∀ i v c, i < n → (∀ j, j < i → ∃ v, Q j (.ret v)) → Q i (.pan v) → caughtC v = some c → K (.tuple [.int .i64 i, .int .i64 c]) (A i)) :
    SimX Try.prog F_trap_Each [.int .i64 n, .func (.func k) first cap] (A 0) (outK K Kp) := by
  refine i_trap_Each (by simp) fun R hR => ?_
  simp -implicitDefEqProofs +contextual [a_trap_Each, q_trap_Each_0, q_trap_Each_1, q_trap_Each_2]
  intro gn hgn gf k1 k2 hgf gd k3 k4 k5 k6 hgd
  refine catch_of (by simp) fun gc hgc => ?_
  simp only [set_none] at hgc
  obtain ⟨c1, c2, c3, c4, c5, c6, hgc⟩ := hgc
  have hc0 : ∀ x, A 0 x = none → ∀ i, A i x = none := fun x hx i => (hdom i x).2 hx
  -- what the loop holds
  refine i_trap_Each_1 (by simp) fun R2 hR2 => ?_
  simp -implicitDefEqProofs [a_trap_Each_1, q_trap_Each_1_0, k1, k2, k3, k4, k5, k6, c1, c2, c3, c4, c5, c6]
  have fin : ∀ (i : Nat) (c : Int) (B : Heap), (A i).Sub B → B gd = some (.var T_int [.int .i64 i]) → B gc = some c0 → K (.tuple [.int .i64 i, .int .i64 c]) (A i) → ∀ o, endC o c →
      ∃ c A', endC o c ∧ A' gc = none ∧ B = A'.set gc c0 ∧ KV Try.prog R (some 9) [⟨some 7, .mv (.t 9), none⟩] (.thn (.seq (.region q_trap_Each_3) .ret) .done)
        (upd (upd (upd (upd (upd (upd (env0 [.int .i64 n, .func (.func k) first cap]) 2 (.ptr gn 0)) 3 (.ptr gf 0)) 4 (.int .i64 0)) 5 (.int .i64 0)) 6 (.ptr gd 0)) 8 (.func (.func F_trap_Each_1) [] [.ptr gn 0, .ptr gf 0, .ptr gd 0])) (.int .i64 c) A' := by
    intro i c B h1 h2 h3 h4 o ho
    refine ⟨c, B.del gc, ho, by simp [del_app], ?_, ?_⟩
    · funext x; simp only [set_app, del_app]; split
      · rename_i e; subst e; exact h3
      · rfl
    · have h5 : (B.del gc) gd = some (.var T_int [.int .i64 i]) := by rw [del_app, if_neg c2]; exact h2
      simp -implicitDefEqProofs [q_trap_Each_3, h5]
      refine hR _ _ _ ?_
      simp -implicitDefEqProofs [a_trap_Each, fpost, outOf]
      refine ⟨A i, fun x z hx => ?_, h4⟩
      rw [del_app, if_neg (fun e => by subst e; rw [hc0 _ hgc i] at hx; cases hx)]
      exact h1 _ _ hx
  refine X_lp (fun (i : Nat) env B => i ≤ n ∧ env 0 = .ptr gn 0 ∧ env 1 = .ptr gf 0 ∧ env 2 = .ptr gd 0 ∧ env 4 = .int .i64 n ∧ env 5 = .int .i64 i ∧ (A i).Sub B ∧ B gn = some (.var T_int [.int .i64 n]) ∧ B gf = some (.var T_fno_int_c [.func (.func k) first cap]) ∧
    B gd = some (.var T_int [.int .i64 i]) ∧ B gc = some c0 ∧ ∀ j, j < i → ∃ v, Q j (.ret v)) (fun i => n - i) 0 ?_ ?_
  · refine ⟨by omega, by simp, by simp, by simp, by simp, by simp, ?_, by simp [k1, k2, k3, k4, k5, k6, c1, c2, c3, c4, c5, c6], by simp [k1, k2, k3, k4, k5, k6, c1, c2, c3, c4, c5, c6], by simp [k1, k2, k3, k4, k5, k6, c1, c2, c3, c4, c5, c6], by simp [c0], by simp⟩
    intro y z hy
    have n1 : y ≠ gn := fun e => by subst e; rw [hgn] at hy; cases hy
    have n2 : y ≠ gf := fun e => by subst e; rw [hgf] at hy; cases hy
    have n3 : y ≠ gd := fun e => by subst e; rw [hgd] at hy; cases hy
    have n4 : y ≠ gc := fun e => by subst e; rw [hgc] at hy; cases hy
    simp [n1, n2, n3, n4, hy]
  rintro i env B ⟨hi, e0, e1, e2, e4, e5, hB, b1, b2, b3, b4, hq⟩
  simp -implicitDefEqProofs (disch := first | omega | simp) [q_trap_Each_1_L6, q_trap_Each_1_1, q_trap_Each_1_2, q_trap_Each_1_3, e0, e1, e2, e4, e5, b1, b2, b3, b4, wrap_i64, hk]
  refine ⟨fun hlt => ?_, fun hge => ?_⟩
  · refine (hcl i hlt B hB).mono ?_
    rintro o B' ⟨ho, hfr, hret, hpan⟩
    have f1 := hfr gn hgn
    have f2 := hfr gf hgf
    have f3 := hfr gd hgd
    have f4 := hfr gc hgc
    rw [b1] at f1; rw [b2] at f2; rw [b3] at f3; rw [b4] at f4
    cases o with
    | ret v =>
      simp -implicitDefEqProofs (disch := first | omega | simp) [q_trap_Each_1_4, q_trap_Each_1_5, e0, e1, e2, e4, e5, f1, f2, f3, f4, wrap_i64]
      refine lp_next (i + 1) ⟨hlt, by simp [e0], by simp [e1], by simp [e2], by simp [e4], by simp, ?_, by simp [k5, k6, f1], by simp [k3, k4, f2], by simp, by simp [c1, c2, f4], ?_⟩ (by omega)
      · intro y z hy
        have n3 : y ≠ gd := fun e => by subst e; rw [hc0 _ hgd] at hy; cases hy
        simp [n3, hret ⟨v, rfl⟩ _ _ hy]
      · intro j hj
        rcases Nat.lt_succ_iff_lt_or_eq.1 hj with h | h
        · exact hq j h
        · subst h; exact ⟨v, ho⟩
    | pan v =>
      simp -implicitDefEqProofs
      obtain ⟨c, hc⟩ := hcode i v ho
      exact hR2 _ _ _ ⟨B', Sub_refl B', fin i c B' (hpan ⟨v, rfl⟩) f3 f4 (hKp i v c hlt hq ho hc) (.pan v) hc⟩
  · have : i = n := by omega
    subst this
    simp -implicitDefEqProofs
    exact hR2 _ _ _ ⟨B, Sub_refl B, fin i 0 B hB b3 b4 (hK hq) _ rfl⟩
theorem w_Each1 {k n : Nat} {first cap : List AV} {A : Nat → Heap} {K Kp : AV → Heap → Prop} {Q : Nat → AOut → Prop} (hk : callable Try.prog k = true) (hn : n < 2 ^ 40)
    (hdom : ∀ i x, A i x = none ↔ A 0 x = none)
    (hcl : ∀ i, i < n → ∀ B, (A i).Sub B → SimX Try.prog k (first ++ .int .i64 i :: cap) B fun o B' => Q i o ∧ (∀ x, A 0 x = none → B' x = B x) ∧ ((∃ v, o = .ret v) → (A (i + 1)).Sub B') ∧ ((∃ v, o = .pan v) → (A i).Sub B'))
    (hcode : ∀ i v, Q i (.pan v) → ∃ c, caughtC v = some c)
    (hK : ∀ (j : Nat) (c : Int), j ≤ n → (∀ i, i < j → ∃ v, Q i (.ret v)) → ((j = n ∧ c = 0) ∨ (j < n ∧ ∃ v, Q j (.pan v) ∧ caughtC v = some c)) → K (.tuple [.int .i64 j, .int .i64 c]) (A j)) :
    SimX Try.prog F_trap_Each [.int .i64 n, .func (.func k) first cap] (A 0) (outK K Kp) :=
  w_Each hk hn hdom hcl hcode (fun h => hK n 0 (Nat.le_refl n) h (.inl ⟨rfl, rfl⟩)) fun i v c hi hlow ho hc => hK i c (Nat.le_of_lt hi) hlow (.inr ⟨hi, v, ho, hc⟩)
/-- A function that leaves memory as it is, and ends with this code. -/
def Still (A : Heap) (f : AV) (c : Int) : Prop := ∃ k first cap, f = .func (.func k) first cap ∧ callable Try.prog k = true ∧ ∀ B, A.Sub B → SimX Try.prog k (first ++ cap) B fun o B' => endC o c ∧ B' = B
theorem catch_still {A : Heap} {f : AV} {c : Int} {K Kp : AV → Heap → Prop} (h : Still A f c) (hK : K (.int .i64 c) A) : SimX Try.prog F_trap_Catch [f] A (outK K Kp) := by
  obtain ⟨k, first, cap, rfl, hk, h⟩ := h
  refine catch_of hk fun g hg => (h _ (sub_none hg)).mono ?_
  rintro o B ⟨ho, rfl⟩
  exact ⟨c, A, ho, hg, rfl, hK⟩
theorem w_First {fs : List AV} {A : Heap} {g m : Nat} {t : TypeId} {c : Int} {K Kp : AV → Heap → Prop} (hA : A g = some (.row t 1 fs)) (hm : m ≤ fs.length) (hl : fs.length < 2 ^ 40)
    (hlow : ∀ j (hj : j < fs.length), j < m → Still A fs[j] 0) (hat : (m = fs.length ∧ c = 0) ∨ (c ≠ 0 ∧ ∃ hj : m < fs.length, Still A fs[m] c)) (hK : K (.int .i64 c) A) :
    SimX Try.prog F_trap_First [.own g 0 fs.length] A (outK K Kp) := by
  refine i_trap_First (by simp) fun R hR => ?_
  simp -implicitDefEqProofs [a_trap_First, q_trap_First_0, q_trap_First_1]
  refine X_lp (fun (i : Nat) env B => i ≤ m ∧ env 6 = .own g 0 fs.length ∧ env 7 = .int .i64 fs.length ∧ env 8 = .int .i64 i ∧ B = A) (fun i => m - i) 0 ⟨by omega, by simp, by simp, by simp, rfl⟩ ?_
  rintro i env B ⟨hi, e6, e7, e8, rfl⟩
  simp -implicitDefEqProofs (disch := first | omega | simp) [q_trap_First_L8, q_trap_First_2, q_trap_First_3, e6, e7, e8, hA]
  refine ⟨fun hlt => ?_, fun hge => ?_⟩
  · refine ⟨hlt, ?_⟩
    have st : Still B fs[i] (if i < m then 0 else c) := by
      split
      · exact hlow i hlt (by assumption)
      · have : i = m := by omega
        subst this
        rcases hat with ⟨h, _⟩ | ⟨_, _, h⟩
        · omega
        · exact h
    obtain ⟨k, first, cap, hf, hk, hs⟩ := st
    simp -implicitDefEqProofs [hf, q_trap_First_4]
    refine catch_still ⟨k, first, cap, rfl, hk, hs⟩ ?_
    by_cases him : i < m
    · simp -implicitDefEqProofs (disch := first | omega | simp) [him, q_trap_First_5, q_trap_First_7, e8, wrap_i64]
      exact lp_next (i + 1) ⟨him, by simp [e6], by simp [e7], by simp, rfl⟩ (by omega)
    · have hc : c ≠ 0 := by
        rcases hat with ⟨h, _⟩ | ⟨h, _⟩
        · omega
        · exact h
      simp -implicitDefEqProofs [him, hc, q_trap_First_5, q_trap_First_6]
      refine hR _ _ _ ?_
      simp -implicitDefEqProofs [a_trap_First, fpost, outOf]
      exact ⟨B, Sub_refl B, hK⟩
  · have hc : c = 0 := by
      rcases hat with ⟨_, h⟩ | ⟨_, h, _⟩
      · exact h
      · omega
    subst hc
    simp -implicitDefEqProofs [q_trap_First_8]
    refine hR _ _ _ ?_
    simp -implicitDefEqProofs [a_trap_First, fpost, outOf]
    exact ⟨B, Sub_refl B, hK⟩
/-! works -/
theorem still_of {A : Heap} {k : FuncId} {cap : List AV} {n : Int} (hk : callable Try.prog k = true) (h : ∀ B, A.Sub B → SimX Try.prog k cap B fun o B' => endC o n ∧ B' = B) : Still A (.func (.func k) [] cap) n := ⟨k, [], cap, rfl, hk, h⟩
end Go.Proofs.Ytgbplcelcjffdaa
