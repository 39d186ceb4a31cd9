/- The walk of TrapCatches. -/
import Derived.Test.YtgbplcelcjffdaaTe
namespace Go.Proofs.Ytgbplcelcjffdaa
open Go AVL
set_option linter.unusedVariables false
set_option linter.unusedSimpArgs false

theorem w_law05_TrapCatches (n : Int) (d : Nat) (hn : I64 n) (hd : d < 256) : Gives Try.prog F_law05_TrapCatches [.int .i64 n, .int .u8 d] (.bool true) := by
  refine v_law05_TrapCatches (by simp) ?_
  simp -implicitDefEqProofs +contextual [a_law05_TrapCatches, q_law05_TrapCatches_0, q_law05_TrapCatches_1]
  intro g g1 k1 k2
  refine catch_of (by simp) fun gc hgc => ?_
  have c1 : ¬gc = g := fun e => by subst e; simp [k2] at hgc
  have c2 : ¬gc = g1 := fun e => by subst e; simp at hgc
  have c1' : ¬g = gc := fun e => c1 e.symm
  have c2' : ¬g1 = gc := fun e => c2 e.symm
  refine (w_TrapCatches_1 n d hn hd g g1 _ (by simp [k2, c1']) (by simp [c2'])).mono ?_
  rintro o B ⟨he, rfl⟩
  refine ⟨_, _, he, hgc, rfl, ?_⟩
  simp -implicitDefEqProofs [q_law05_TrapCatches_2]
  refine w_Try_pure (by simp) (Q := fun o => (n = 0 ∧ o = .ret (.int .i64 5)) ∨ ∃ v, o = .pan v ∧ stepQ n o) (fun B hB => ?_) ?_
  · refine i_law05_TrapCatches_2 (by simp) fun R hR => ?_
    have hg : B g = some (.var T_int [.int .i64 n]) := hB _ _ (by simp [k2])
    simp -implicitDefEqProofs [a_law05_TrapCatches_2, q_law05_TrapCatches_2_0, q_law05_TrapCatches_2_1, hg]
    refine (w_step n hn).call (.cons (.refl _) rfl .nil) (fun o h => stepQ_noF h) ?_
    intro o ho
    cases o with
    | ret v =>
      obtain ⟨h0, rfl⟩ := stepQ_ret ho
      simp -implicitDefEqProofs [q_law05_TrapCatches_2_2]
      exact hR _ _ _ ⟨B, Sub_refl B, .inl ⟨h0, by simp [outOf]⟩, rfl⟩
    | pan v =>
      simp -implicitDefEqProofs
      exact hR _ _ _ ⟨B, Sub_refl B, .inr ⟨v, rfl, ho⟩, rfl⟩
  · intro o ho
    have fin : ∀ x, (x = 5 ∧ codeN n = 0 ∨ x = 0 ∧ codeN n ≠ 0) → KV Try.prog (fin [ARes.tmp 4] (AV.bool true)) (some 13)
        [⟨some 11, .mv (.t 13), none⟩, ⟨some 14, .ext 0 (.t 11), none⟩, ⟨some 15, .ext 1 (.t 11), none⟩, ⟨some 6, .mv (.t 14), none⟩, ⟨some 7, .mv (.t 15), none⟩] (Kt.thn ((ACode.region q_law05_TrapCatches_3).seq ((ACode.region q_law05_TrapCatches_4).seq ACode.ret)) Kt.done)
        (upd (upd (upd (upd (upd (upd (upd (env0 [.int .i64 n, .int .u8 d]) 2 (.ptr g 0)) 3 (.ptr g1 0)) 4 (.bool false)) 9 (.func (.func F_law05_TrapCatches_1) [] [.ptr g 0, .ptr g1 0])) 10 (.int .i64 (codeN n))) 5 (.int .i64 (codeN n))) 12 (.func (.func F_law05_TrapCatches_2) [] [.ptr g 0]))
        (.tuple [.int .i64 x, .int .i64 (codeN n)]) ((H0.set g (.var 3 [.int .i64 n])).set g1 (.var 5 [.int .u8 d])) := by
      intro x hx
      simp -implicitDefEqProofs [q_law05_TrapCatches_3, k1, k2]
      refine (w_ref05_Code n).call (.cons (.refl _) rfl .nil) rfl ?_
      rcases hx with ⟨rfl, hc⟩ | ⟨rfl, hc⟩
      · simp -implicitDefEqProofs [q_law05_TrapCatches_4, hc]
        refine w_law05_works.call .nil rfl ?_
        simp -implicitDefEqProofs
      · simp -implicitDefEqProofs [q_law05_TrapCatches_4, hc]
        refine w_law05_works.call .nil rfl ?_
        simp -implicitDefEqProofs
    rcases ho with ⟨h0, rfl⟩ | ⟨v, rfl, ho⟩
    · have hc : codeN n = 0 := by subst h0; rfl
      refine ⟨codeN n, 5, hc, .inl rfl, fin 5 (.inl ⟨rfl, hc⟩)⟩
    · have he2 := stepQ_end ho
      refine ⟨codeN n, 0, he2, .inr ⟨⟨v, rfl⟩, rfl⟩, fin 0 (.inr ⟨rfl, ?_⟩)⟩
      unfold stepQ at ho
      unfold codeN
      split at ho
      · rename_i h; rw [if_pos h]; decide
      · rename_i h
        rw [if_neg h]
        intro h0; subst h0; simp at ho
end Go.Proofs.Ytgbplcelcjffdaa
