/- The plain law behind CrcTurns: the step is linear and loses nothing. -/
import Derived.Test.YtgbplcelcjffdaaCe
namespace Go.Proofs.Ytgbplcelcjffdaa
open Go AVL
set_option linter.unusedVariables false
set_option linter.unusedSimpArgs false

theorem xor_half (a b : Nat) : (a ^^^ b) / 2 = a / 2 ^^^ b / 2 := by
  have := Nat.shiftRight_xor_distrib (a := a) (b := b) (i := 1)
  simpa [Nat.shiftRight_eq_div_pow] using this
theorem xor_par (a b : Nat) : (a ^^^ b) % 2 = (a + b) % 2 := by
  have h := Nat.testBit_xor a b 0
  rw [Nat.testBit_zero, Nat.testBit_zero, Nat.testBit_zero] at h
  rcases Nat.mod_two_eq_zero_or_one a with ha | ha <;> rcases Nat.mod_two_eq_zero_or_one b with hb | hb <;> rcases Nat.mod_two_eq_zero_or_one (a ^^^ b) with hc | hc <;> simp [ha, hb, hc] at h <;> omega
theorem step_lin (p a b : Nat) : (if (a ^^^ b) % 2 = 1 then (a ^^^ b) / 2 ^^^ p else (a ^^^ b) / 2) = (if a % 2 = 1 then a / 2 ^^^ p else a / 2) ^^^ (if b % 2 = 1 then b / 2 ^^^ p else b / 2) := by
  rw [xor_half, xor_par]
  rcases Nat.mod_two_eq_zero_or_one a with ha | ha <;> rcases Nat.mod_two_eq_zero_or_one b with hb | hb
  · have : (a + b) % 2 = 0 := by omega
    simp [ha, hb, this]
  · have : (a + b) % 2 = 1 := by omega
    simp [ha, hb, this, Nat.xor_assoc]
  · have : (a + b) % 2 = 1 := by omega
    simp [ha, hb, this, Nat.xor_assoc, Nat.xor_comm p]
  · have : (a + b) % 2 = 0 := by omega
    simp only [ha, hb, this, if_true]
    rw [if_neg (by decide)]
    have e : a / 2 ^^^ p ^^^ (b / 2 ^^^ p) = a / 2 ^^^ (p ^^^ (p ^^^ b / 2)) := by rw [Nat.xor_comm (b / 2) p, Nat.xor_assoc]
    rw [e, xor_twice]
theorem step1_xor (a b : Nat) : step1 (a ^^^ b) = step1 a ^^^ step1 b := by
  rw [step1.eq_1, step1.eq_1, step1.eq_1]; exact step_lin _ a b
theorem step1_zero : step1 0 = 0 := by decide
theorem step1_even (x : Nat) : step1 (2 * x) = x := by
  rw [step1.eq_1, if_neg (by omega)]; omega
theorem step1_ne {a : Nat} (h : a < 2 ^ 32) (h0 : a ≠ 0) : step1 a ≠ 0 := by
  rw [step1.eq_1]
  split
  · intro e
    have : a / 2 = 3988292384 := by
      have h2 := congrArg (fun x => x ^^^ 3988292384) e
      simp only [Nat.xor_assoc, Nat.xor_self, Nat.xor_zero, Nat.zero_xor] at h2
      exact h2
    omega
  · omega
theorem steps_add : ∀ (m n r : Nat), steps (m + n) r = steps n (steps m r)
  | 0, n, r => by rw [Nat.zero_add]; rfl
  | m + 1, n, r => by rw [Nat.add_right_comm]; exact steps_add m n (step1 r)
theorem steps_xor : ∀ (n a b : Nat), steps n (a ^^^ b) = steps n a ^^^ steps n b
  | 0, a, b => rfl
  | n + 1, a, b => by simp only [steps]; rw [step1_xor]; exact steps_xor n _ _
theorem steps_pow : ∀ (n x : Nat), steps n (2 ^ n * x) = x
  | 0, x => by simp [steps]
  | n + 1, x => by
    simp only [steps]
    have : 2 ^ (n + 1) * x = 2 * (2 ^ n * x) := by rw [Nat.pow_succ]; simp [Nat.mul_comm, Nat.mul_left_comm]
    rw [this, step1_even]
    exact steps_pow n x
theorem steps_ne : ∀ (n : Nat) {a : Nat}, a < 2 ^ 32 → a ≠ 0 → steps n a ≠ 0
  | 0, a, _, h => h
  | n + 1, a, hl, h => steps_ne n (step1_lt hl) (step1_ne hl h)

/-- The register behind bytes. -/
def reg (r : Nat) (l : List Nat) : Nat := l.foldl turnN r
theorem turnN_xor (a b c : Nat) : turnN (a ^^^ b) c = turnN a c ^^^ steps 8 b := by
  simp only [turnN]
  rw [← steps_xor]
  congr 1
  rw [Nat.xor_assoc, Nat.xor_comm b c, ← Nat.xor_assoc]
theorem reg_xor : ∀ (l : List Nat) (a b : Nat), reg (a ^^^ b) l = reg a l ^^^ steps (8 * l.length) b
  | [], a, b => rfl
  | c :: l, a, b => by
    show reg (turnN (a ^^^ b) c) l = reg (turnN a c) l ^^^ _
    rw [turnN_xor, reg_xor l, ← steps_add]
    congr 2
    simp; omega
theorem turnN_flip (r c j : Nat) (hj : j < 8) : turnN r (c ^^^ 2 ^ j) = turnN r c ^^^ steps (8 - j) 1 := by
  simp only [turnN]
  rw [← Nat.xor_assoc, steps_xor]
  congr 1
  have : 8 = j + (8 - j) := by omega
  rw [show steps 8 (2 ^ j) = steps (j + (8 - j)) (2 ^ j) by rw [← this], steps_add]
  have := steps_pow j 1
  rw [Nat.mul_one] at this
  rw [this]
theorem reg_append (r : Nat) (l m : List Nat) : reg r (l ++ m) = reg (reg r l) m := by simp [reg]
/-- A bit is turned. -/
theorem reg_flip (r : Nat) (l : List Nat) (i : Nat) (hi : i < 8 * l.length) : reg r (l.set (i / 8) (l[i / 8]?.getD 0 ^^^ 2 ^ (i % 8))) = reg r l ^^^ steps (8 * l.length - i) 1 := by
  have hk : i / 8 < l.length := by omega
  have hs : l = l.take (i / 8) ++ l[i / 8] :: l.drop (i / 8 + 1) := by rw [List.getElem_cons_drop]; exact (List.take_append_drop _ _).symm
  have hset : l.set (i / 8) (l[i / 8]?.getD 0 ^^^ 2 ^ (i % 8)) = l.take (i / 8) ++ (l[i / 8] ^^^ 2 ^ (i % 8)) :: l.drop (i / 8 + 1) := by
    rw [List.set_eq_take_append_cons_drop, if_pos hk, List.getElem?_eq_getElem hk]; rfl
  rw [hset, reg_append]
  have e1 : reg r l = reg (turnN (reg r (l.take (i / 8))) l[i / 8]) (l.drop (i / 8 + 1)) := by
    conv => lhs; rw [hs]
    rw [reg_append]; rfl
  rw [e1]
  show reg (turnN (reg r (l.take (i / 8))) (l[i / 8] ^^^ 2 ^ (i % 8))) (l.drop (i / 8 + 1)) = _
  rw [turnN_flip _ _ _ (Nat.mod_lt _ (by decide)), reg_xor, ← steps_add]
  congr 2
  simp only [List.length_drop]
  omega

theorem xor_low (d : Nat) : d = d % 256 ^^^ 256 * (d / 256) := by
  apply Nat.eq_of_testBit_eq
  intro i
  rw [Nat.testBit_xor]
  have h1 : (256 : Nat) = 2 ^ 8 := rfl
  rw [h1, Nat.testBit_mod_two_pow, Nat.testBit_two_pow_mul, Nat.testBit_div_two_pow]
  by_cases h : i < 8
  · simp [h, Nat.not_le.2 h]
  · have : 8 ≤ i := by omega
    simp [h, this]
theorem turn_low (r d : Nat) : steps 8 (r ^^^ d) = turnN r (d % 256) ^^^ d / 256 := by
  conv => lhs; rw [xor_low d]
  rw [← Nat.xor_assoc, steps_xor]
  have := steps_pow 8 (d / 256)
  rw [show (2 : Nat) ^ 8 = 256 from rfl] at this
  rw [this]; rfl
theorem reg_four (r d : Nat) (hd : d < 2 ^ 32) : reg r (fourN d) = steps 32 (r ^^^ d) := by
  have e : steps 32 (r ^^^ d) = steps 8 (steps 8 (steps 8 (steps 8 (r ^^^ d)))) := by
    rw [← steps_add, ← steps_add, ← steps_add]
  rw [e, turn_low, turn_low, turn_low, turn_low]
  have d1 : d / 256 / 256 = d / 65536 := by omega
  have d2 : d / 65536 / 256 = d / 16777216 := by omega
  have d3 : d / 16777216 / 256 = 0 := by omega
  rw [d1, d2, d3, Nat.xor_zero]
  rfl
theorem reg_sealed (r : Nat) (hr : r < 2 ^ 32) : reg r (fourN (notN r)) = steps 32 4294967295 := by
  rw [reg_four _ _ (notN_lt hr)]
  congr 1
  rw [notN.eq_1, Nat.xor_comm 4294967295 r, xor_twice]
theorem moreN_reg (l : List Nat) : moreN 0 l = notN (reg 4294967295 l) := by
  rw [moreN.eq_1]
  congr 1
theorem reg_lt {l : List Nat} (hl : Bytes l) : reg 4294967295 l < 2 ^ 32 := foldl_lt l _ hl (by decide)
/-- What holds has the one register behind it. -/
theorem holds_reg {l : List Nat} (hl : Bytes l) (h : holdsN l = true) : reg 4294967295 l = steps 32 4294967295 := by
  simp only [holdsN, Bool.and_eq_true, decide_eq_true_eq, beq_iff_eq] at h
  conv => lhs; rw [← List.take_append_drop (l.length - 4) l]
  rw [reg_append, ← h.2, moreN_reg]
  exact reg_sealed _ (reg_lt (bytes_take hl _))
theorem holds_sealed (l : List Nat) : holdsN (l ++ fourN (moreN 0 l)) = true := by
  have h4 : (fourN (moreN 0 l)).length = 4 := rfl
  simp [holdsN, h4]
/-- Bytes with a burst in them do not hold. -/
theorem burst {l m : List Nat} (hl : Bytes l) (hm : Bytes m) (h : holdsN l = true) {n mask : Nat} (h0 : mask ≠ 0) (hmask : mask < 2 ^ 32) (hr : reg 4294967295 m = reg 4294967295 l ^^^ steps n mask) : holdsN m = false := by
  cases hh : holdsN m with
  | false => rfl
  | true =>
    exfalso
    rw [holds_reg hm hh, holds_reg hl h] at hr
    have h2 := congrArg (fun x => steps 32 4294967295 ^^^ x) hr
    simp only [Nat.xor_self, xor_twice] at h2
    exact steps_ne n hmask h0 h2.symm
/-- One bit more of the mask. -/
theorem mask_step (mask k : Nat) : mask % 2 ^ (k + 1) = if mask / 2 ^ k % 2 = 1 then mask % 2 ^ k ^^^ 2 ^ k else mask % 2 ^ k := by
  apply Nat.eq_of_testBit_eq
  intro i
  have hb : mask.testBit k = decide (mask / 2 ^ k % 2 = 1) := Nat.testBit_eq_decide_div_mod_eq
  split
  · rename_i h
    rw [Nat.testBit_xor, Nat.testBit_mod_two_pow, Nat.testBit_mod_two_pow, Nat.testBit_two_pow]
    by_cases e : i = k
    · subst e; simp [hb, h]
    · have e2 : ¬ k = i := fun h => e h.symm
      have : (i < k + 1) = (i < k) := by apply propext; omega
      simp [e2, this]
  · rename_i h
    rw [Nat.testBit_mod_two_pow, Nat.testBit_mod_two_pow]
    by_cases e : i = k
    · subst e; simp [hb, h]
    · have : (i < k + 1) = (i < k) := by apply propext; omega
      simp [this]
end Go.Proofs.Ytgbplcelcjffdaa
