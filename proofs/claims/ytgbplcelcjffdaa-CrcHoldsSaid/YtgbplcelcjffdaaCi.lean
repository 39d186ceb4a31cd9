/- The plain law behind CrcSums: the division's window is the register. -/
import Derived.Test.YtgbplcelcjffdaaCh
namespace Go.Proofs.Ytgbplcelcjffdaa
open Go AVL
set_option linter.unusedVariables false
set_option linter.unusedSimpArgs false

/-- The register, bit by bit. -/
def rb (l : List Nat) : Nat → Nat
  | 0 => 4294967295
  | i + 1 => step1 (rb l i ^^^ rawb l i)
theorem rawb_lt (l : List Nat) (p : Nat) : rawb l p < 2 := Nat.mod_lt _ (by decide)
theorem rb_lt (l : List Nat) : ∀ i, rb l i < 2 ^ 32
  | 0 => by simp [rb]
  | i + 1 => step1_lt (Nat.xor_lt_two_pow (rb_lt l i) (by have := rawb_lt l i; omega))
theorem rb_byte (l : List Nat) (j : Nat) : ∀ t, t ≤ 8 → rb l (8 * j + t) = steps t (rb l (8 * j) ^^^ (l[j]?.getD 0 % 2 ^ t))
  | 0, _ => by simp [steps, Nat.mod_one]
  | t + 1, h => by
    have ih := rb_byte l j t (by omega)
    have hd : (8 * j + t) / 8 = j := by omega
    have hm : (8 * j + t) % 8 = t := by omega
    have e1 : rb l (8 * j + (t + 1)) = step1 (rb l (8 * j + t) ^^^ rawb l (8 * j + t)) := rfl
    have hraw : rawb l (8 * j + t) = l[j]?.getD 0 / 2 ^ t % 2 := by simp [rawb, hd, hm]
    rw [e1, ih, hraw]
    generalize l[j]?.getD 0 = c
    have hp := steps_pow t (c / 2 ^ t % 2)
    have e2 : steps t (rb l (8 * j) ^^^ c % 2 ^ t) ^^^ (c / 2 ^ t % 2) = steps t (rb l (8 * j) ^^^ c % 2 ^ t ^^^ 2 ^ t * (c / 2 ^ t % 2)) := by rw [steps_xor t _ (2 ^ t * _), hp]
    rw [e2]
    have e3 : ∀ x, step1 (steps t x) = steps (t + 1) x := fun x => by rw [steps_add]; rfl
    rw [e3, mask_step, Nat.xor_assoc]
    congr 2
    rcases Nat.mod_two_eq_zero_or_one (c / 2 ^ t) with h0 | h0
    · simp [h0]
    · simp [h0]
theorem rb_reg (l : List Nat) (hl : Bytes l) : ∀ j, j ≤ l.length → rb l (8 * j) = reg 4294967295 (l.take j)
  | 0, _ => rfl
  | j + 1, h => by
    have ih := rb_reg l hl j (by omega)
    have hb := rb_byte l j 8 (Nat.le_refl _)
    have hc : l[j]?.getD 0 = l[j] := by rw [List.getElem?_eq_getElem (by omega)]; rfl
    have hlt : l[j] < 256 := hl _ (List.getElem_mem (by omega))
    rw [show 8 * (j + 1) = 8 * j + 8 by omega, hb, ih, hc, Nat.mod_eq_of_lt (by omega), List.take_add_one, reg_append]
    rw [List.getElem?_eq_getElem (by omega)]
    rfl

def bt (r j : Nat) : Nat := (r.testBit j).toNat
theorem bt_lt (r j : Nat) : bt r j < 2 := by unfold bt; cases r.testBit j <;> decide
theorem bt_xor (a b j : Nat) : bt (a ^^^ b) j = bt a j ^^^ bt b j := by
  unfold bt
  rw [Nat.testBit_xor]
  cases a.testBit j <;> cases b.testBit j <;> rfl
theorem bt_half (a j : Nat) : bt (a / 2) j = bt a (j + 1) := by
  unfold bt; rw [Nat.testBit_add_one]
theorem bt_zero (a : Nat) : bt a 0 = a % 2 := by
  unfold bt
  rw [Nat.testBit_zero]
  rcases Nat.mod_two_eq_zero_or_one a with h | h <;> simp [h]
theorem bt_big {r j : Nat} (h : r < 2 ^ 32) (hj : 32 ≤ j) : bt r j = 0 := by
  unfold bt
  rw [Nat.testBit_lt_two_pow (Nat.lt_of_lt_of_le h (Nat.pow_le_pow_right (by decide) hj))]
  rfl
def poly : List Nat := [1, 0, 0, 0, 0, 0, 1, 0, 0, 1, 1, 0, 0, 0, 0, 0, 1, 0, 0, 0, 1, 1, 1, 0, 1, 1, 0, 1, 1, 0, 1, 1, 1]
theorem poly_bt : ∀ j, j < 32 → poly[j + 1]?.getD 0 = bt 3988292384 j := by decide
/-- One step of the division, seen at a place behind it. -/
theorem div_bit (l : List Nat) (i j : Nat) : bt (rb l (i + 1)) j = bt (rb l i) (j + 1) ^^^ (if (bt (rb l i) 0 ^^^ rawb l i) = 1 then bt 3988292384 j else 0) := by
  have hr := rawb_lt l i
  have e1 : rb l (i + 1) = step1 (rb l i ^^^ rawb l i) := rfl
  have h2 : rawb l i / 2 = 0 := by omega
  have hpar : (rb l i ^^^ rawb l i) % 2 = bt (rb l i) 0 ^^^ rawb l i := by
    rw [← bt_zero, bt_xor]
    congr 1
    rw [bt_zero]; omega
  rw [e1, step1.eq_1, hpar]
  split
  · rw [bt_xor, xor_half, h2, Nat.xor_zero, bt_half]
  · rw [xor_half, h2, Nat.xor_zero, bt_half, Nat.xor_zero]
end Go.Proofs.Ytgbplcelcjffdaa
