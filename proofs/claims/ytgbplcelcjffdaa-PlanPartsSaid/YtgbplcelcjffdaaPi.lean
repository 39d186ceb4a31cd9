/- The walk of PlanParts. -/
import Derived.Test.YtgbplcelcjffdaaPh
namespace Go.Proofs.Ytgbplcelcjffdaa
open Go AVL
set_option linter.unusedVariables false
set_option linter.unusedSimpArgs false

theorem noFs_strs : ∀ l : List ByteArray, AV.noFs (l.map AV.str) = true
  | [] => rfl
  | x :: r => by simp [AV.noFs, AV.noF, noFs_strs r]
theorem wIx (s t c a : Nat) (hs : s ≤ 200) : Gives Try.prog F_ref07_Index [planV s t c a] (.int .i64 (ixM s : Nat)) := by
  have := w_ref07_Index s t c a (by omega)
  rwa [ixM_eq] at this
theorem Vws_refl {A : Heap} : ∀ l : List AV, Vws A l l
  | [] => .nil
  | _ :: r => .cons (.refl _) (Vws_refl r)
theorem lay_nat (s t c a : Nat) : layL s t c a = [(s : Int), t, c, a, 5, 5 + (ixM s : Nat), 5 + (ixM s : Nat) + t, 5 + (ixM s : Nat) + t + c, 5 + (ixM s : Nat) + t + c + a, 5 + (ixM s : Nat) + t + c + a + 1, 5 + (ixM s : Nat) + t + c + a + 1 + ((ixM s : Nat) + 9 + t),
    5 + (ixM s : Nat) + t + c + a + 1 + ((ixM s : Nat) + 9 + t) + s, (ixM s : Nat) * 6, (ixM s : Nat) + 9 + t] := by simp [layL, ixM_eq]
set_option maxRecDepth 8000 in
theorem w_law07_PlanParts_ok (s t c a : Nat) (at_ : Int) (h : planOk s t c a) : Gives Try.prog F_law07_PlanParts [planV s t c a, .int .i64 at_] (.bool true) := by
  have hh := h
  unfold planOk at hh
  have hix : ixM s ≤ 100 := by simp only [ixM]; omega
  refine v_law07_PlanParts (by simp) ?_
  simp -implicitDefEqProofs [a_law07_PlanParts, q_law07_PlanParts_0, q_law07_PlanParts_1, planV]
  intro g
  refine (w_plan_Of s t c a h).call (.cons (.refl _) rfl .nil) rfl ?_
  rw [lay_nat]
  simp -implicitDefEqProofs +contextual [layV, q_law07_PlanParts_2]
  intro g1 k1 k2
  refine (w_ref07_Check s t c a).call (.cons (.refl _) rfl .nil) rfl ?_
  simp -implicitDefEqProofs [q_law07_PlanParts_3, k1, k2, planCode, h]
  refine (w_plan_Check s t c a).call (.cons (.refl _) rfl .nil) rfl ?_
  simp -implicitDefEqProofs [q_law07_PlanParts_5, q_law07_PlanParts_7, k1, k2, planCode, h]
  refine (w_ref07_Parts s t c a (by omega) (by omega) (by omega) (by omega)).call (.cons (.refl _) rfl .nil) (noFs_strs _) ?_
  intro g2 hg2
  have k3 : ¬g2 = g := fun e => by subst e; simp [k2] at hg2
  have k4 : ¬g2 = g1 := fun e => by subst e; simp at hg2
  have k5 : ¬g = g2 := fun e => k3 e.symm
  have k6 : ¬g1 = g2 := fun e => k4 e.symm
  have lenI : (((partsM s t c a).length : Nat) : Int) = 5 + (ixM s : Nat) + t + c + a + 1 + ((ixM s : Nat) + 9 + t) + s := by rw [parts_len]; omega
  have m6 : 6 * ((ixM s : Nat) : Int) = (ixM s : Nat) * 6 := by omega
  have m9 : 9 + ((ixM s : Nat) : Int) + t = (ixM s : Nat) + 9 + t := by omega
  have hA : (H0.set g (Cont.var 53 [AV.int IntKind.i64 ↑s, AV.int IntKind.i64 ↑t, AV.int IntKind.i64 ↑c, AV.int IntKind.i64 ↑a])).set g1 (Cont.var 55 [(.int .i64 s), (.int .i64 t), (.int .i64 c), (.int .i64 a), (.int .i64 5), (.int .i64 (5 + (ixM s : Nat))), (.int .i64 (5 + (ixM s : Nat) + t)), (.int .i64 (5 + (ixM s : Nat) + t + c)), (.int .i64 (5 + (ixM s : Nat) + t + c + a)), (.int .i64 (5 + (ixM s : Nat) + t + c + a + 1)), (.int .i64 (5 + (ixM s : Nat) + t + c + a + 1 + ((ixM s : Nat) + 9 + t))),
    (.int .i64 (5 + (ixM s : Nat) + t + c + a + 1 + ((ixM s : Nat) + 9 + t) + s)), (.int .i64 ((ixM s : Nat) * 6)), (.int .i64 ((ixM s : Nat) + 9 + t))]) g2 = none := hg2
  clear hg2
  obtain ⟨A0, hA0⟩ : ∃ A : Heap, A = (H0.set g (Cont.var 53 [AV.int IntKind.i64 ↑s, AV.int IntKind.i64 ↑t, AV.int IntKind.i64 ↑c, AV.int IntKind.i64 ↑a])).set g1 (Cont.var 55 [(.int .i64 s), (.int .i64 t), (.int .i64 c), (.int .i64 a), (.int .i64 5), (.int .i64 (5 + (ixM s : Nat))), (.int .i64 (5 + (ixM s : Nat) + t)), (.int .i64 (5 + (ixM s : Nat) + t + c)), (.int .i64 (5 + (ixM s : Nat) + t + c + a)), (.int .i64 (5 + (ixM s : Nat) + t + c + a + 1)), (.int .i64 (5 + (ixM s : Nat) + t + c + a + 1 + ((ixM s : Nat) + 9 + t))),
    (.int .i64 (5 + (ixM s : Nat) + t + c + a + 1 + ((ixM s : Nat) + 9 + t) + s)), (.int .i64 ((ixM s : Nat) * 6)), (.int .i64 ((ixM s : Nat) + 9 + t))]) := ⟨_, rfl⟩
  rw [← hA0]
  have a1 : A0 g = some (Cont.var 53 [AV.int IntKind.i64 ↑s, AV.int IntKind.i64 ↑t, AV.int IntKind.i64 ↑c, AV.int IntKind.i64 ↑a]) := by rw [hA0]; simp [k2]
  have a2 : A0 g1 = some (Cont.var 55 [(.int .i64 s), (.int .i64 t), (.int .i64 c), (.int .i64 a), (.int .i64 5), (.int .i64 (5 + (ixM s : Nat))), (.int .i64 (5 + (ixM s : Nat) + t)), (.int .i64 (5 + (ixM s : Nat) + t + c)), (.int .i64 (5 + (ixM s : Nat) + t + c + a)), (.int .i64 (5 + (ixM s : Nat) + t + c + a + 1)), (.int .i64 (5 + (ixM s : Nat) + t + c + a + 1 + ((ixM s : Nat) + 9 + t))),
    (.int .i64 (5 + (ixM s : Nat) + t + c + a + 1 + ((ixM s : Nat) + 9 + t) + s)), (.int .i64 ((ixM s : Nat) * 6)), (.int .i64 ((ixM s : Nat) + 9 + t))]) := by rw [hA0]; simp
  clear hA0 hA
  have vw : Vw (A0.set g2 (rowS (partsM s t c a))) (.own g2 0 (partsM s t c a).length) (.dsl 1 ((partsM s t c a).map .str)) := by
    have := Vw.ownR (A := A0.set g2 (rowS (partsM s t c a))) (g := g2) (i := 0) (n := (partsM s t c a).length) (l := (partsM s t c a).map .str) (t := T_string) (sz := 1) set_eq' (by simp) (Vws_refl _)
    rwa [List.drop_zero, List.take_of_length_le (by simp)] at this
  have hl : (partsM s t c a).length < 2 ^ 40 := by rw [parts_len]; omega
  have f_index := w_ref07_First (partsM s t c a) wIndex hl
  rw [first_index (by omega) (by omega) (by omega) (by omega)] at f_index
  have f_text := w_ref07_First (partsM s t c a) wText hl
  rw [first_text (by omega) (by omega) (by omega) (by omega)] at f_text
  have f_clip := w_ref07_First (partsM s t c a) wClip hl
  rw [first_clip (by omega) (by omega) (by omega) (by omega)] at f_clip
  have f_audit := w_ref07_First (partsM s t c a) wAudit hl
  rw [first_audit (by omega) (by omega) (by omega) (by omega)] at f_audit
  have f_head := w_ref07_First (partsM s t c a) wHead hl
  rw [first_head (by omega) (by omega) (by omega) (by omega)] at f_head
  have f_body := w_ref07_First (partsM s t c a) wBody hl
  rw [first_body (by omega) (by omega) (by omega) (by omega)] at f_body
  have f_slot := w_ref07_First (partsM s t c a) wSlot hl
  rw [first_slot (by omega) (by omega) (by omega) (by omega)] at f_slot
  have tail : ∀ env, env 1 = .int .i64 at_ → env 5 = .ptr g1 0 → env 8 = .own g2 0 (partsM s t c a).length → env 9 = .str (prtI s t c a at_) →
      XD Try.prog (fin [ARes.tmp 4] (.bool true)) q_law07_PlanParts_13 (.thn (.cond (.t 132) (.seq (.region q_law07_PlanParts_14) .ret) .skip) (.thn (.seq (.region q_law07_PlanParts_15) .ret) .done)) env (A0.set g2 (rowS (partsM s t c a))) := by
    intro env e1 e5 e8 e9
    simp -implicitDefEqProofs (disch := first | omega | simp) [k1, k2, k3, k4, k5, k6, a1, a2, lenI, Sub_refl, wrap_i64, q_law07_PlanParts_13, e1, e5, e8, e9]
    refine f_index.call (.cons vw rfl (.cons (.refl _) rfl .nil)) rfl ?_
    simp -implicitDefEqProofs (disch := first | omega | simp) [k1, k2, k3, k4, k5, k6, a1, a2, lenI, Sub_refl, wrap_i64, q_law07_PlanParts_15, e1, e5, e8, e9]
    refine f_text.call (.cons vw rfl (.cons (.refl _) rfl .nil)) rfl ?_
    simp -implicitDefEqProofs (disch := first | omega | simp) [k1, k2, k3, k4, k5, k6, a1, a2, lenI, Sub_refl, wrap_i64, q_law07_PlanParts_15, e1, e5, e8, e9]
    refine f_clip.call (.cons vw rfl (.cons (.refl _) rfl .nil)) rfl ?_
    simp -implicitDefEqProofs (disch := first | omega | simp) [k1, k2, k3, k4, k5, k6, a1, a2, lenI, Sub_refl, wrap_i64, q_law07_PlanParts_15, e1, e5, e8, e9]
    refine f_audit.call (.cons vw rfl (.cons (.refl _) rfl .nil)) rfl ?_
    simp -implicitDefEqProofs (disch := first | omega | simp) [k1, k2, k3, k4, k5, k6, a1, a2, lenI, Sub_refl, wrap_i64, q_law07_PlanParts_15, e1, e5, e8, e9]
    refine f_head.call (.cons vw rfl (.cons (.refl _) rfl .nil)) rfl ?_
    simp -implicitDefEqProofs (disch := first | omega | simp) [k1, k2, k3, k4, k5, k6, a1, a2, lenI, Sub_refl, wrap_i64, q_law07_PlanParts_15, e1, e5, e8, e9]
    refine f_body.call (.cons vw rfl (.cons (.refl _) rfl .nil)) rfl ?_
    simp -implicitDefEqProofs (disch := first | omega | simp) [k1, k2, k3, k4, k5, k6, a1, a2, lenI, Sub_refl, wrap_i64, q_law07_PlanParts_15, e1, e5, e8, e9]
    refine f_slot.call (.cons vw rfl (.cons (.refl _) rfl .nil)) rfl ?_
    simp -implicitDefEqProofs (disch := first | omega | simp) [k1, k2, k3, k4, k5, k6, a1, a2, lenI, Sub_refl, wrap_i64, q_law07_PlanParts_15, e1, e5, e8, e9]
    have hp : Gives Try.prog F_plan_Layout_Part [layV (layL s t c a), .int .i64 at_] (.str (prtI s t c a at_)) := w_plan_Layout_Part s t c a _ _ _ _ _ _ _ _ _ _ _
    rw [lay_nat] at hp
    refine hp.call (.cons (.refl _) rfl (.cons (.refl _) rfl .nil)) rfl ?_
    simp -implicitDefEqProofs (disch := first | omega | simp) [k1, k2, k3, k4, k5, k6, a1, a2, lenI, Sub_refl, wrap_i64, e1, e5, e8, e9]
    refine w_law07_works.call .nil rfl ?_
    simp -implicitDefEqProofs
  simp -implicitDefEqProofs (disch := first | omega | simp) [q_law07_PlanParts_8, k1, k2, k3, k4, k5, k6, a1, a2, lenI]
  refine (wIx s t c a (by omega)).call (.cons (.refl _) rfl .nil) rfl ?_
  simp -implicitDefEqProofs (disch := first | omega | simp) [k1, k2, k3, k4, k5, k6, a1, a2, lenI, Sub_refl, wrap_i64, m6]
  refine (wIx s t c a (by omega)).call (.cons (.refl _) rfl .nil) rfl ?_
  simp -implicitDefEqProofs (disch := first | omega | simp) [k1, k2, k3, k4, k5, k6, a1, a2, lenI, Sub_refl, wrap_i64, m9]
  refine (w_plan_Layout_Bound _ _ _ _ _ _ _ _ _ _ _ _ _ _ (by omega)).call (.cons (.refl _) rfl .nil) rfl ?_
  simp -implicitDefEqProofs (disch := first | omega | simp) [k1, k2, k3, k4, k5, k6, a1, a2, lenI, Sub_refl, wrap_i64, q_law07_PlanParts_10]
  by_cases c0 : 0 ≤ at_
  · by_cases c1 : at_ < 5 + (ixM s : Nat) + t + c + a + 1 + ((ixM s : Nat) + 9 + t) + s
    · have hn : at_.toNat < (partsM s t c a).length := by omega
      have hg := parts_get s t c a at_.toNat hn
      have hto : ((at_.toNat : Nat) : Int) = at_ := by omega
      rw [hto] at hg
      simp -implicitDefEqProofs (disch := first | omega | simp) [k1, k2, k3, k4, k5, k6, a1, a2, lenI, Sub_refl, wrap_i64, q_law07_PlanParts_11, q_law07_PlanParts_12, c0, c1, rowS, hn, hg, k3]
      refine tail _ (by simp) (by simp) (by simp) ?_
      simp
      rw [List.getElem?_eq_getElem hn] at hg
      exact Option.some.inj hg
    · simp -implicitDefEqProofs (disch := first | omega | simp) [k1, k2, k3, k4, k5, k6, a1, a2, lenI, Sub_refl, wrap_i64, q_law07_PlanParts_11, c0, c1]
      refine tail _ (by simp) (by simp) (by simp) ?_
      have : prtI s t c a at_ = ⟨#[]⟩ := by unfold prtI partB; rw [ixM_eq, if_neg (by omega), if_pos (by omega)]
      rw [this]; simp
  · simp -implicitDefEqProofs (disch := first | omega | simp) [k1, k2, k3, k4, k5, k6, a1, a2, lenI, Sub_refl, wrap_i64, q_law07_PlanParts_11, c0]
    refine tail _ (by simp) (by simp) (by simp) ?_
    have : prtI s t c a at_ = ⟨#[]⟩ := by unfold prtI partB; rw [if_pos (by omega)]
    rw [this]; simp
set_option maxRecDepth 8000 in
theorem w_law07_PlanParts_bad (s t c a at_ : Int) (h : ¬ planOk s t c a) : Gives Try.prog F_law07_PlanParts [planV s t c a, .int .i64 at_] (.bool true) := by
  refine v_law07_PlanParts (by simp) ?_
  simp -implicitDefEqProofs [a_law07_PlanParts, q_law07_PlanParts_0, q_law07_PlanParts_1, planV]
  intro g
  refine (w_plan_Of_bad s t c a h).call (.cons (.refl _) rfl .nil) rfl ?_
  simp -implicitDefEqProofs +contextual [layV, lay0, q_law07_PlanParts_2]
  intro g1 k1 k2
  refine (w_ref07_Check s t c a).call (.cons (.refl _) rfl .nil) rfl ?_
  simp -implicitDefEqProofs [q_law07_PlanParts_3, k1, k2, planCode, h]
  refine (w_plan_Check s t c a).call (.cons (.refl _) rfl .nil) rfl ?_
  simp -implicitDefEqProofs [q_law07_PlanParts_5, q_law07_PlanParts_6, k1, k2, planCode, h]
  refine w_law07_works.call .nil rfl ?_
  simp -implicitDefEqProofs
theorem w_law07_PlanParts (s t c a at_ : Int) : Gives Try.prog F_law07_PlanParts [planV s t c a, .int .i64 at_] (.bool true) := by
  by_cases h : planOk s t c a
  · have hh := h
    unfold planOk at hh
    obtain ⟨s, rfl⟩ := Int.eq_ofNat_of_zero_le (a := s) (by omega)
    obtain ⟨t, rfl⟩ := Int.eq_ofNat_of_zero_le (a := t) (by omega)
    obtain ⟨c, rfl⟩ := Int.eq_ofNat_of_zero_le (a := c) (by omega)
    obtain ⟨a, rfl⟩ := Int.eq_ofNat_of_zero_le (a := a) (by omega)
    exact w_law07_PlanParts_ok s t c a at_ h
  · exact w_law07_PlanParts_bad s t c a at_ h
end Go.Proofs.Ytgbplcelcjffdaa
