/- The walk of the checksum laws' fixed examples. -/
import Derived.Test.YtgbplcelcjffdaaCc
namespace Go.Proofs.Ytgbplcelcjffdaa
open Go AVL
set_option linter.unusedVariables false
set_option linter.unusedSimpArgs false

theorem v0 : moreN 0 [49, 50, 51, 52, 53] = 3421846044 := by decide +kernel
theorem v1 : moreN 0 [49, 50, 51, 52, 53, 54, 55, 56, 57] = 3421780262 := by decide +kernel
theorem v2 : moreN 3421846044 [54, 55, 56, 57] = 3421780262 := by decide +kernel
theorem v3 : moreN 0 [] = 0 := by decide +kernel
theorem v4 : [97] ++ fourN (moreN 0 [97]) = [97, 67, 190, 183, 232] := by decide +kernel
theorem v5 : holdsN [97, 67, 190, 183, 232] = true := by decide +kernel
theorem v6 : holdsN [97, 98, 99] = false := by decide +kernel
theorem s1 : Gives Try.prog 14 [.isl .u8 [49, 50, 51, 52, 53, 54, 55, 56, 57]] (.int .u32 3421780262) := by
  have := w14 [49, 50, 51, 52, 53, 54, 55, 56, 57] (by simp [Bytes]) (by simp)
  rw [v1] at this; exact this
theorem s2 : Gives Try.prog 14 [.isl .u8 []] (.int .u32 0) := by
  have := w14 [] (by simp [Bytes]) (by simp)
  rw [v3] at this; exact this
theorem s3 : Gives Try.prog 14 [.isl .u8 [49, 50, 51, 52, 53]] (.int .u32 3421846044) := by
  have := w14 [49, 50, 51, 52, 53] (by simp [Bytes]) (by simp)
  rw [v0] at this; exact this
theorem s4 : Gives Try.prog 16 [.int .u32 3421846044, .isl .u8 [54, 55, 56, 57]] (.int .u32 3421780262) := by
  have := w16 3421846044 [54, 55, 56, 57] (by decide) (by simp [Bytes]) (by simp)
  rw [v2] at this; exact this
theorem s5 : Gives Try.prog 52 [.int .u32 16909060] (.iarr .u8 4 [4, 3, 2, 1]) := w52 16909060 (by decide)
theorem s6 : Makes Try.prog 17 [.isl .u8 [97]] 5 (.irow 5 .u8 [97, 67, 190, 183, 232]) := by
  have := w17 [97] (by simp [Bytes]) (by simp)
  rw [v4] at this; exact this
theorem s7 : Gives Try.prog 19 [.isl .u8 [97, 67, 190, 183, 232]] (.bool true) := by
  have := w19 [97, 67, 190, 183, 232] (by simp [Bytes]) (by simp)
  rw [v5] at this; exact this
theorem s8 : Gives Try.prog 19 [.isl .u8 [97, 98, 99]] (.bool false) := by
  have := w19 [97, 98, 99] (by simp [Bytes]) (by simp)
  rw [v6] at this; exact this
theorem e5 : eqI 4 [4, 3, 2, 1] [4, 3, 2, 1] = true := rfl
theorem w13 : Gives Try.prog 13 [] (.bool true) := by
  refine X_intro g13 c13 (by rw [Try.ntmps13]; simp) fun R hR => ?_
  simp -implicitDefEqProofs +contextual [a13, q13_0, q13_1]
  intro g
  refine s1.call (.cons (.refl _) rfl .nil) rfl ?_
  simp -implicitDefEqProofs
  refine s2.call (.cons (.nil _) rfl .nil) rfl ?_
  simp -implicitDefEqProofs +contextual
  intro g
  refine s3.call (.cons (.refl _) rfl .nil) rfl ?_
  simp -implicitDefEqProofs +contextual
  intro g
  refine s4.call (.cons (.refl _) rfl (.cons (.refl _) rfl .nil)) rfl ?_
  simp -implicitDefEqProofs
  refine s5.call (.cons (.refl _) rfl .nil) rfl ?_
  simp -implicitDefEqProofs +contextual [e5]
  intro g
  refine s6.call (.cons (.refl _) rfl .nil) rfl ?_
  intro g' _
  simp -implicitDefEqProofs
  refine s7.call (.cons (.own (set_eq' ..) (by simp)) rfl .nil) rfl ?_
  simp -implicitDefEqProofs +contextual
  intro g2 _ _
  refine s8.call (.cons (.refl _) rfl .nil) rfl ?_
  simp -implicitDefEqProofs
  exact hR _ _ _ (by simp [a13, fpost])
end Go.Proofs.Ytgbplcelcjffdaa
