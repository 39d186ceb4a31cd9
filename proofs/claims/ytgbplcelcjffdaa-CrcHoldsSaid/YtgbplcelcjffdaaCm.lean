/- The walks of the reference's Get and Same. -/
import Derived.Test.YtgbplcelcjffdaaCl
import Derived.Laws.Strings
namespace Go.Proofs.Ytgbplcelcjffdaa
open Go AVL
set_option linter.unusedVariables false
set_option linter.unusedSimpArgs false

def leN : List Nat → Nat
  | [] => 0
  | c :: r => c + 256 * leN r
theorem leN_lt : ∀ (l : List Nat), Bytes l → leN l < 256 ^ l.length
  | [], _ => by simp [leN]
  | c :: r, h => by
    have h1 := leN_lt r fun x hx => h x (by simp [hx])
    have h2 := h c (by simp)
    simp only [leN, List.length_cons, Nat.pow_succ]
    omega
theorem w18 : ∀ (n : Nat) (l : List Nat), l.length = n → n ≤ 8 → Bytes l → Gives Try.prog 18 [.isl .u8 (ints l)] (.int .u64 (leN l))
  | 0, l, hn, _, hl => by
    have : l = [] := List.eq_nil_of_length_eq_zero hn
    subst this
    refine X_intro g18 c18 (by rw [Try.ntmps18]; simp) fun R hR => ?_
    simp -implicitDefEqProofs [a18, q18_0, q18_1, q18_2]
    exact hR _ _ _ ⟨H0, Sub_refl _, by simp [leN], rfl⟩
  | n + 1, [], hn, _, _ => by simp at hn
  | n + 1, c :: r, hn, h8, hl => by
    have hr : Bytes r := fun x hx => hl x (by simp [hx])
    have hc := hl c (by simp)
    have hlen : r.length = n := by simpa using hn
    have ih := w18 n r hlen (by omega) hr
    refine X_intro g18 c18 (by rw [Try.ntmps18]; simp) fun R hR => ?_
    have z1 : ¬ ((n : Int) + 1 = 0) := by omega
    have z2 : ¬ (8 < (n : Int) + 1) := by omega
    have y1 : IntKind.u64.wrap (c : Int) = (c : Int) := wrap_u64 (by omega)
    have hlt := leN_lt r hr
    have hpw : 256 ^ r.length ≤ 256 ^ 7 := Nat.pow_le_pow_right (by decide) (by omega)
    have y2 : IntKind.u64.wrap (256 * ((leN r : Nat) : Int)) = 256 * ((leN r : Nat) : Int) := wrap_u64 (by omega)
    have y3 : IntKind.u64.wrap ((c : Int) + 256 * ((leN r : Nat) : Int)) = (c : Int) + 256 * ((leN r : Nat) : Int) := wrap_u64 (by omega)
    have hi : ints (c :: r) = (c : Int) :: ints r := rfl
    simp -implicitDefEqProofs [a18, q18_0, q18_1, q18_3, hlen, z1, z2, q18_5, y1, hi]
    have ht : List.take n r = r := List.take_of_length_le (by omega)
    rw [ht]
    refine ⟨by omega, ?_⟩
    refine ih.call (.cons (.refl _) rfl .nil) rfl ?_
    simp -implicitDefEqProofs [Sub_refl, y2, y3]
    exact hR _ _ _ ⟨H0, Sub_refl _, by simp [leN], rfl⟩

theorem strOf_inj {a b : List Nat} (ha : Bytes a) (hb : Bytes b) : ((strOf (ints a)).toList = (strOf (ints b)).toList) = (a = b) := by
  apply propext
  rw [ByteArray.toList_eq, ByteArray.toList_eq]
  constructor
  · intro h
    have key : ∀ {x : List Nat}, Bytes x → (strOf (ints x)).data.toList.map UInt8.toNat = x := by
      intro x hx
      simp only [strOf, ints, List.map_map]
      rw [List.map_congr_left (g := id) (fun n hn => by
        have := hx n hn
        simp [UInt8.toNat_ofNat', Nat.mod_eq_of_lt this])]
      simp
    rw [← key ha, ← key hb, h]
  · rintro rfl; rfl
theorem w20 (a b : List Nat) (ha : Bytes a) (hb : Bytes b) : Gives Try.prog 20 [.isl .u8 (ints a), .isl .u8 (ints b)] (.bool (a == b)) := by
  refine X_intro g20 c20 (by rw [Try.ntmps20]; simp) fun R hR => ?_
  simp -implicitDefEqProofs [a20, q20_0, q20_1, strOf_inj ha hb]
  exact hR _ _ _ ⟨H0, Sub_refl _, by rw [show (a == b) = decide (a = b) by by_cases h : a = b <;> simp [h]]; rfl, rfl⟩
end Go.Proofs.Ytgbplcelcjffdaa
