/- DigestSums, walked. -/
import Derived.Test.YtjbiekcldkjgjaaDw
namespace Go.Proofs.Ytjbiekcldkjgjaa
open Go AVL
attribute [-simp] AV.isAgg aappI aapp alen abuild
set_option linter.unusedVariables false
set_option linter.unusedSimpArgs false
set_option maxRecDepth 8000

theorem dig_length (l : List Nat) : (dig l).length = 32 := outB_length _
theorem w_DigestSums {a b : List Nat} (ha : byts a) (hb : byts b) (hal : a.length < 2 ^ 63) (hbl : b.length < 2 ^ 63) : Gives Try.prog F_law03_DigestSums [.isl .u8 (ints a), .isl .u8 (ints b)] (.bool true) := by
  refine v_law03_DigestSums (by simp) ?_
  by_cases h1 : 600 < a.length
  · have c1 : (600 : Int) < a.length := by omega
    simp -implicitDefEqProofs [a_law03_DigestSums, q_law03_DigestSums_0, q_law03_DigestSums_1, q_law03_DigestSums_2, h1, c1]
    refine w_law03_works.call .nil rfl ?_
    simp -implicitDefEqProofs [outOf]
  by_cases h2 : 600 < b.length
  · have c1 : ¬ (600 : Int) < a.length := by omega
    have c2 : (600 : Int) < b.length := by omega
    simp -implicitDefEqProofs [a_law03_DigestSums, q_law03_DigestSums_0, q_law03_DigestSums_1, q_law03_DigestSums_2, h1, h2, c1, c2]
    refine w_law03_works.call .nil rfl ?_
    simp -implicitDefEqProofs [outOf]
  have c1 : ¬ (600 : Int) < a.length := by omega
  have c2 : ¬ (600 : Int) < b.length := by omega
  simp -implicitDefEqProofs [a_law03_DigestSums, q_law03_DigestSums_0, q_law03_DigestSums_1, q_law03_DigestSums_3, q_law03_DigestSums_4, h1, h2, c1, c2]
  refine (SlS.nil (e := T_uint8) (k := .u8) (Sub_refl H0)).appS (bytes := 1) (ys := ints a) (Sub_refl _) (fun Q hQ => ⟨rfl, hQ⟩) (by simp; omega) fun v1 A1 h1 n1 => ?_
  simp -implicitDefEqProofs
  refine h1.appS (bytes := 1) (ys := ints b) (Sub_refl _) (fun Q hQ => ⟨rfl, hQ⟩) (by simp; omega) fun v2 A2 h2 n2 => ?_
  simp only [List.nil_append] at h2
  have hap : ints a ++ ints b = ints (a ++ b) := by simp [ints]
  rw [hap] at h2
  have hab : byts (a ++ b) := byts_append ha hb
  have hfl : [a, b].flatten = a ++ b := by simp
  have hd := dig_length (a ++ b)
  have hd0 := dig_length []
  simp -implicitDefEqProofs [q_law03_DigestSums_5]
  intro g hg
  have hv : Vw (A2.set g (.row 34 1 [.isl .u8 (ints a), .isl .u8 (ints b)])) (.own g 0 2) (.dsl 1 (txts [a, b])) := .ownR (i := 0) (n := 2) set_eq' (by simp) (Vws.refls _)
  refine (w_digest_Of (L := [a, b]) (by simp [ha, hb]) (by simp; omega) (by simp)).call (.cons hv rfl .nil) rfl ?_
  rw [hfl]
  simp -implicitDefEqProofs [n2]
  refine (w_ref03_Sum hab (by simp; omega)).call (.cons (h2.mono (sub_none hg)).vw n2 .nil) rfl ?_
  simp -implicitDefEqProofs [eqI_self]
  refine (w_digest_Of (L := []) (by simp) (by simp) (by simp)).call (.cons (.nilD 1) rfl .nil) rfl ?_
  simp -implicitDefEqProofs [eqI_self]
  refine (w_ref03_Sum (b := []) (by simp [byts]) (by simp)).call (.cons (.nil .u8) rfl .nil) rfl ?_
  simp -implicitDefEqProofs [eqI_self]
  refine w_law03_works.call .nil rfl ?_
  simp -implicitDefEqProofs [outOf]
end Go.Proofs.Ytjbiekcldkjgjaa
