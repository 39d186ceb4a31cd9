/- The walk of CrcParts. -/
import Derived.Test.YtgbplcelcjffdaaCd
namespace Go.Proofs.Ytgbplcelcjffdaa
open Go AVL
set_option linter.unusedVariables false
set_option linter.unusedSimpArgs false

theorem xor_twice (a s : Nat) : a ^^^ (a ^^^ s) = s := by rw [← Nat.xor_assoc, Nat.xor_self, Nat.zero_xor]
theorem notN_notN (s : Nat) : notN (notN s) = s := by
  rw [notN.eq_1, notN.eq_1, xor_twice]
theorem moreN_append (s : Nat) (l m : List Nat) : moreN (moreN s l) m = moreN s (l ++ m) := by
  simp only [moreN, List.foldl_append, notN_notN]
theorem moreN_nil (s : Nat) : moreN s [] = s := by simp [moreN, notN_notN]

theorem w4 (l : List Nat) (c : Nat) (hl : Bytes l) (hc : c < 65536) : SimX Try.prog 4 [.isl .u8 (ints l), .int .u16 c] H0 (fun o _ => o = .ret (.bool true)) := by
  refine X_intro g4 c4 (by rw [Try.ntmps4]; simp) fun R hR => ?_
  simp -implicitDefEqProofs [a4, q4_0, q4_1]
  refine ⟨fun h => ?_, fun h => ?_⟩
  · simp -implicitDefEqProofs [q4_2]
    refine w13.call .nil rfl ?_
    simp -implicitDefEqProofs
    exact hR _ _ _ (by simp [a4, fpost]; exact ⟨H0, Sub_refl _⟩)
  · have hn : l.length < 2 ^ 60 := by omega
    have e1 : IntKind.i64.wrap (c : Int) = c := wrap_i64 (by omega)
    have e2 : IntKind.i64.wrap ((l.length : Int) + 1) = (l.length : Int) + 1 := wrap_i64 (by omega)
    have e3 : (c : Int).tmod ((l.length : Int) + 1) = ((c % (l.length + 1) : Nat) : Int) := rfl
    have e4 : ¬ ((l.length : Int) + 1 = 0) := by omega
    simp -implicitDefEqProofs [q4_3, q4_4, e1, e2, e3, e4, -Int.natCast_emod]
    refine ⟨by have := Nat.mod_lt c (Nat.succ_pos l.length); simp at this; omega, ?_⟩
    generalize hk : c % (l.length + 1) = k
    have hkl : k ≤ l.length := by have := Nat.mod_lt c (Nat.succ_pos l.length); simp at this; omega
    have hd : List.take (l.length - k) (List.drop k l) = List.drop k l := List.take_of_length_le (by simp)
    rw [hd]
    refine (w14 _ (bytes_take hl k) (by simp; omega)).call (.cons (.refl _) rfl .nil) rfl ?_
    simp -implicitDefEqProofs
    refine (w16 _ _ (moreN_lt (by decide) (bytes_take hl k)) (bytes_drop hl k) (by simp; omega)).call (.cons (.refl _) rfl (.cons (.refl _) rfl .nil)) rfl ?_
    rw [moreN_append, List.take_append_drop]
    simp -implicitDefEqProofs
    refine (w14 l hl (by omega)).call (.cons (.refl _) rfl .nil) rfl ?_
    simp -implicitDefEqProofs
    refine (w14 l hl (by omega)).call (.cons (.refl _) rfl .nil) rfl ?_
    simp -implicitDefEqProofs
    refine (w16 _ [] (moreN_lt (by decide) hl) (by simp [Bytes]) (by simp)).call (.cons (.refl _) rfl (.cons (.nil _) rfl .nil)) rfl ?_
    rw [moreN_nil]
    simp -implicitDefEqProofs
    refine (w14 l hl (by omega)).call (.cons (.refl _) rfl .nil) rfl ?_
    simp -implicitDefEqProofs
    refine w13.call .nil rfl ?_
    simp -implicitDefEqProofs
    exact hR _ _ _ (by simp [a4, fpost]; exact ⟨H0, Sub_refl _⟩)
end Go.Proofs.Ytgbplcelcjffdaa
