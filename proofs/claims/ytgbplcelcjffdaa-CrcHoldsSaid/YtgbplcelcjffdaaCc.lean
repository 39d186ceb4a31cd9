/- The walks of the checksum functions, second part. -/
import Derived.Test.YtgbplcelcjffdaaCb
namespace Go.Proofs.Ytgbplcelcjffdaa
open Go AVL
set_option linter.unusedVariables false
set_option linter.unusedSimpArgs false

def notN (s : Nat) : Nat := 4294967295 ^^^ s
def moreN (s : Nat) (l : List Nat) : Nat := notN (l.foldl turnN (notN s))
def Bytes (l : List Nat) : Prop := ∀ x ∈ l, x < 256
theorem notN_lt {s : Nat} (h : s < 2 ^ 32) : notN s < 2 ^ 32 := Nat.xor_lt_two_pow (by decide) h
theorem foldl_lt : ∀ (l : List Nat) (r : Nat), Bytes l → r < 2 ^ 32 → l.foldl turnN r < 2 ^ 32
  | [], r, _, hr => hr
  | c :: l, r, hl, hr => foldl_lt l _ (fun x hx => hl x (by simp [hx])) (turnN_lt hr (hl c (by simp)))
theorem moreN_lt {s : Nat} {l : List Nat} (hs : s < 2 ^ 32) (hl : Bytes l) : moreN s l < 2 ^ 32 := notN_lt (foldl_lt l _ hl (notN_lt hs))
theorem bXor_not {s : Nat} (hs : s < 2 ^ 32) : bXor .u32 4294967295 (s : Int) = ((notN s : Nat) : Int) := bXor_nat (a := 4294967295) rfl (by decide) hs

theorem w16 (s : Nat) (l : List Nat) (hs : s < 2 ^ 32) (hl : Bytes l) (hn : l.length < 2 ^ 62) : Gives Try.prog 16 [.int .u32 s, .isl .u8 (ints l)] (.int .u32 (moreN s l)) := by
  refine X_intro g16 c16 (by rw [Try.ntmps16]; simp) fun R hR => ?_
  have m : IntKind.u32.max = 4294967295 := by decide
  have sg : IntKind.u32.signed = false := rfl
  simp -implicitDefEqProofs [a16, q16_0, q16_1, q16_2, sg, m, bXor_not hs]
  refine X_loop (fun (s' : Nat × Nat) env A => s'.1 ≤ l.length ∧ s'.2 < 2 ^ 32 ∧ notN ((l.drop s'.1).foldl turnN s'.2) = moreN s l ∧ env 5 = .int .u32 s'.2 ∧ env 10 = .isl .u8 (ints l) ∧ env 11 = .int .i64 l.length ∧ env 12 = .int .i64 s'.1 ∧ A = H0)
    (fun s' => l.length - s'.1) (0, notN s) ⟨by simp, notN_lt hs, rfl, by simp, by simp, by simp, by simp, rfl⟩ ?_
  rintro R' ⟨i, x⟩ env A ⟨h1, h2, h3, h4, h5, h6, h7, rfl⟩ hN hE
  simp only at h1 h2 h3 h4 h7
  simp -implicitDefEqProofs [q16_L7, q16_3, q16_4, h4, h5, h6, h7]
  refine ⟨fun hi => ⟨hi, ?_⟩, fun hi => ?_⟩
  · have hb : (l[i]?.getD 0) < 256 := by rw [List.getElem?_eq_getElem hi]; exact hl _ (List.getElem_mem hi)
    simp -implicitDefEqProofs [q16_5, h4]
    refine (w54 x _ h2 hb).call (.cons (.refl _) rfl (.cons (.refl _) rfl .nil)) rfl ?_
    have e6 : IntKind.i64.wrap ((i : Int) + 1) = ((i + 1 : Nat) : Int) := by rw [wrap_i64 (by omega)]; simp
    simp -implicitDefEqProofs [q16_6, h7]
    refine hN (i + 1, turnN x (l[i]?.getD 0)) _ _ ⟨hi, turnN_lt h2 hb, ?_, by simp, by simp [h5], by simp [h6], by simp [e6], rfl⟩ (by simp; omega)
    rw [List.drop_eq_getElem_cons hi] at h3
    have hg : l[i]?.getD 0 = l[i] := by simp [List.getElem?_eq_getElem hi]
    rw [hg]
    exact h3
  · refine hE _ _ _ (by simp) ?_
    have : i = l.length := by omega
    subst this
    simp only [List.drop_length, List.foldl_nil] at h3
    simp -implicitDefEqProofs [q16_7, h4, sg, m, bXor_not h2, h3]
    exact hR _ _ _ ⟨H0, Sub_refl _, by simp, rfl⟩

theorem w14 (l : List Nat) (hl : Bytes l) (hn : l.length < 2 ^ 62) : Gives Try.prog 14 [.isl .u8 (ints l)] (.int .u32 (moreN 0 l)) := by
  refine X_intro g14 c14 (by rw [Try.ntmps14]; simp) fun R hR => ?_
  simp -implicitDefEqProofs [a14, q14_0, q14_1]
  refine (w16 0 l (by decide) hl hn).call (.cons (.refl _) rfl (.cons (.refl _) rfl .nil)) rfl ?_
  simp -implicitDefEqProofs
  exact hR _ _ _ ⟨H0, Sub_refl _, by simp, rfl⟩

def fourN (s : Nat) : List Nat := [s % 256, s / 256 % 256, s / 65536 % 256, s / 16777216 % 256]
theorem w52 (s : Nat) (hs : s < 2 ^ 32) : Gives Try.prog 52 [.int .u32 s] (.iarr .u8 4 (ints (fourN s))) := by
  refine X_intro g52 c52 (by rw [Try.ntmps52]; simp) fun R hR => ?_
  have e8 : shrI .u32 (s : Int) 8 = ((s / 256 : Nat) : Int) := shrI_nat (b := 8)
  have e16 : shrI .u32 (s : Int) 16 = ((s / 65536 : Nat) : Int) := shrI_nat (b := 16)
  have e24 : shrI .u32 (s : Int) 24 = ((s / 16777216 : Nat) : Int) := shrI_nat (b := 24)
  simp -implicitDefEqProofs [a52, q52_0, q52_1, e8, e16, e24, wrap_u8m]
  intro g
  refine hR _ _ _ ?_
  simp -implicitDefEqProofs [a52, fpost, fourN, ints]

theorem w17 (l : List Nat) (hl : Bytes l) (hn : l.length < 2 ^ 40) : Makes Try.prog 17 [.isl .u8 (ints l)] (l.length + 4) (.irow 5 .u8 (ints (l ++ fourN (moreN 0 l)))) := by
  refine X_intro g17 c17 (by rw [Try.ntmps17]; simp) fun R hR => ?_
  simp -implicitDefEqProofs [a17, q17_0, q17_1]
  refine (w14 l hl (by omega)).call (.cons (.refl _) rfl .nil) rfl ?_
  simp -implicitDefEqProofs
  refine (w52 _ (moreN_lt (by decide) hl)).call (.cons (.refl _) rfl .nil) rfl ?_
  have h4 : (fourN (moreN 0 l)).length = 4 := rfl
  simp -implicitDefEqProofs +contextual [q17_2, h4]
  intro g g1 _ _
  refine ⟨by omega, fun g2 _ _ _ _ => ⟨by omega, fun g3 _ _ _ _ => ?_⟩⟩
  refine hR _ _ _ ?_
  simp -implicitDefEqProofs [a17, fpost]
  have h5 : List.take 4 (fourN (moreN 0 l)) = fourN (moreN 0 l) := rfl
  simp only [h5]
  exact set_sub (H0_sub _)

theorem bytes_four (s : Nat) : Bytes (fourN s) := by
  intro x hx
  simp -implicitDefEqProofs [fourN] at hx
  omega
theorem bytes_take {l : List Nat} (h : Bytes l) (n : Nat) : Bytes (l.take n) := fun x hx => h x (List.mem_of_mem_take hx)
theorem bytes_drop {l : List Nat} (h : Bytes l) (n : Nat) : Bytes (l.drop n) := fun x hx => h x (List.mem_of_mem_drop hx)
/-- What Holds answers. -/
def holdsN (l : List Nat) : Bool := decide (4 ≤ l.length) && (fourN (moreN 0 (l.take (l.length - 4))) == l.drop (l.length - 4))
theorem w19 (l : List Nat) (hl : Bytes l) (hn : l.length < 2 ^ 60) : Gives Try.prog 19 [.isl .u8 (ints l)] (.bool (holdsN l)) := by
  refine X_intro g19 c19 (by rw [Try.ntmps19]; simp) fun R hR => ?_
  have e : IntKind.i64.wrap ((l.length : Int) - 4) = (l.length : Int) - 4 := wrap_i64 (by omega)
  simp -implicitDefEqProofs [a19, q19_0, q19_1, q19_2, e]
  refine ⟨fun h => ?_, fun h => ?_⟩
  · simp -implicitDefEqProofs [q19_3]
    have : holdsN l = false := by simp [holdsN]; omega
    exact hR _ _ _ (by simp [a19, fpost, this])
  · have tn : ((l.length : Int) - 4).toNat = l.length - 4 := by omega
    have hl4 : 4 ≤ l.length := by omega
    have t2 : l.length - (l.length - 4) = 4 := by omega
    have t3 : List.take 4 (List.drop (l.length - 4) l) = List.drop (l.length - 4) l := List.take_of_length_le (by simp; omega)
    simp -implicitDefEqProofs [q19_4, tn, hl4, t2, t3, h]
    refine ⟨by omega, ?_⟩
    refine (w14 _ (bytes_take hl _) (by simp; omega)).call (.cons (.refl _) rfl .nil) rfl ?_
    simp -implicitDefEqProofs [Sub_refl]
    refine (w52 _ (moreN_lt (by decide) (bytes_take hl _))).call (.cons (.refl _) rfl .nil) rfl ?_
    simp -implicitDefEqProofs [Sub_refl]
    have he : eqI 4 (ints (fourN (moreN 0 (List.take (l.length - 4) l)))) (ints (List.drop (l.length - 4) l)) = holdsN l := by
      rw [eqI_ints (n := 4) rfl (by simp; omega)]
      simp -implicitDefEqProofs [holdsN, hl4]
    rw [he]
    exact hR _ _ _ (by simp [a19, fpost])
end Go.Proofs.Ytgbplcelcjffdaa
