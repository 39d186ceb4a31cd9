/- The walk of CrcSums. -/
import Derived.Test.YtgbplcelcjffdaaCk
namespace Go.Proofs.Ytgbplcelcjffdaa
open Go AVL
set_option linter.unusedVariables false
set_option linter.unusedSimpArgs false

theorem w3 (l : List Nat) (hl : Bytes l) : SimX Try.prog 3 [.isl .u8 (ints l)] H0 (fun o _ => o = .ret (.bool true)) := by
  refine X_intro g3 c3 (by rw [Try.ntmps3]; simp) fun R hR => ?_
  simp -implicitDefEqProofs [a3, q3_0, q3_1]
  refine ⟨fun h => ?_, fun h => ?_⟩
  · simp -implicitDefEqProofs [q3_2]
    refine w13.call .nil rfl ?_
    simp -implicitDefEqProofs
    exact hR _ _ _ (by simp [a3, fpost]; exact ⟨H0, Sub_refl _⟩)
  · have hn : l.length < 2 ^ 20 := by omega
    simp -implicitDefEqProofs [q3_3]
    refine (w14 l hl (by omega)).call (.cons (.refl _) rfl .nil) rfl ?_
    simp -implicitDefEqProofs
    refine (w15 l hl hn).call (.cons (.refl _) rfl .nil) rfl ?_
    simp -implicitDefEqProofs
    refine w13.call .nil rfl ?_
    simp -implicitDefEqProofs
    exact hR _ _ _ (by simp [a3, fpost]; exact ⟨H0, Sub_refl _⟩)
end Go.Proofs.Ytgbplcelcjffdaa
