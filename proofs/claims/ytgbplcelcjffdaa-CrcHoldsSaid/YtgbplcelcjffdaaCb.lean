/- The walks of the checksum functions. -/
import Derived.Test.YtgbplcelcjffdaaCa
import Derived.Test.YtgbplcelcjffdaaVu
namespace Go.Proofs.Ytgbplcelcjffdaa
open Go AVL
set_option linter.unusedVariables false
set_option linter.unusedSimpArgs false

def step1 (r : Nat) : Nat := if r % 2 = 1 then (r / 2) ^^^ 3988292384 else r / 2
def steps : Nat → Nat → Nat
  | 0, r => r
  | n + 1, r => steps n (step1 r)
def turnN (r c : Nat) : Nat := steps 8 (r ^^^ c)
theorem step1_lt {r : Nat} (h : r < 2 ^ 32) : step1 r < 2 ^ 32 := by
  unfold step1
  split
  · exact Nat.xor_lt_two_pow (by omega) (by omega)
  · omega
theorem steps_lt : ∀ (n : Nat) {r : Nat}, r < 2 ^ 32 → steps n r < 2 ^ 32
  | 0, r, h => h
  | n + 1, r, h => steps_lt n (step1_lt h)
theorem turnN_lt {r c : Nat} (hr : r < 2 ^ 32) (hc : c < 256) : turnN r c < 2 ^ 32 := steps_lt 8 (Nat.xor_lt_two_pow hr (by omega))

theorem w54 (r c : Nat) (hr : r < 2 ^ 32) (hc : c < 256) : Gives Try.prog 54 [.int .u32 r, .int .u8 c] (.int .u32 (turnN r c)) := by
  refine X_intro g54 c54 (by rw [Try.ntmps54]; simp) fun R hR => ?_
  have e1 : IntKind.u32.wrap (c : Int) = c := wrap_u32 (by omega)
  have e2 : bXor .u32 (r : Int) (c : Int) = ((r ^^^ c : Nat) : Int) := bXor_nat rfl hr (by simp [IntKind.bits]; omega)
  simp -implicitDefEqProofs [a54, q54_0, q54_1, q54_2, e1, e2]
  refine X_loop (fun (s : Nat × Nat) env A => s.1 ≤ 8 ∧ s.2 < 2 ^ 32 ∧ steps (8 - s.1) s.2 = turnN r c ∧ env 0 = .int .u32 s.2 ∧ env 9 = .int .i64 s.1 ∧ A = H0) (fun s => 8 - s.1) (0, r ^^^ c) ⟨by simp, Nat.xor_lt_two_pow hr (by omega), rfl, by simp, by simp, rfl⟩ ?_
  rintro R' ⟨i, x⟩ env A ⟨h1, h2, h3, h4, h5, rfl⟩ hN hE
  simp only at h1 h2 h3 h4 h5
  have e3 : bAnd .u32 (x : Int) 1 = ((x % 2 : Nat) : Int) := by
    have := bAnd_nat (k := .u32) rfl h2 (b := 1) (by decide)
    rw [Nat.and_one_is_mod] at this; exact this
  have e4 : shrI .u32 (x : Int) 1 = ((x / 2 : Nat) : Int) := shrI_nat (b := 1)
  have e5 : bXor .u32 ((x : Int) / 2) 3988292384 = ((x / 2 ^^^ 3988292384 : Nat) : Int) := bXor_nat (a := x / 2) (b := 3988292384) rfl (by simp [IntKind.bits]; omega) (by decide)
  have e6 : i < 8 → IntKind.i64.wrap ((i : Int) + 1) = ((i + 1 : Nat) : Int) := fun h => by rw [wrap_i64 (by omega)]; simp
  simp -implicitDefEqProofs [q54_L8, q54_3, q54_4, q54_5, q54_6, q54_7, h4, h5, e3, e4, e5]
  refine ⟨fun hi => ?_, fun hi => ?_⟩
  · have hs : 8 - i = (8 - (i + 1)) + 1 := by omega
    rw [hs] at h3
    simp only [steps] at h3
    refine ⟨fun hx => ?_, fun hx => ?_⟩
    · have hx' : step1 x = x / 2 ^^^ 3988292384 := by unfold step1; rw [if_pos (by omega)]
      refine hN (i + 1, step1 x) _ _ ⟨by simp; omega, step1_lt h2, h3, by simp [hx'], by simp [e6 (by omega)], rfl⟩ (by simp; omega)
    · have hx' : step1 x = x / 2 := by unfold step1; rw [if_neg (by omega)]
      refine hN (i + 1, step1 x) _ _ ⟨by simp; omega, step1_lt h2, h3, by simp [hx'], by simp [e6 (by omega)], rfl⟩ (by simp; omega)
  · refine hE _ _ _ (by simp) ?_
    have : i = 8 := by omega
    subst this
    simp only [Nat.sub_self, steps] at h3
    subst h3
    simp -implicitDefEqProofs [q54_8, h4]
    exact hR _ _ _ ⟨H0, Sub_refl _, by simp, rfl⟩
end Go.Proofs.Ytgbplcelcjffdaa
