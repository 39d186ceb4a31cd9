/- Texts of this claim, in order: Zc Zd Ze Zf Zg Mi Mj Mk Ml Mm Mn Mo Mp Mq Mr Ms. -/
import Derived.Test.YtfdckjliinpjiaaSlot1
import Derived.Test.YtfdckjliinpjiaaL3
/- The plain law behind CrcTurns: the step is linear and loses nothing. -/
namespace Go.Proofs.Ytfdckjliinpjiaa
open Go AVL
set_option linter.unusedVariables false
set_option linter.unusedSimpArgs false
theorem xor_twice (a s : Nat) : a ^^^ (a ^^^ s) = s := by rw [← Nat.xor_assoc, Nat.xor_self, Nat.zero_xor]

theorem xor_half (a b : Nat) : (a ^^^ b) / 2 = a / 2 ^^^ b / 2 := by
  have := Nat.shiftRight_xor_distrib (a := a) (b := b) (i := 1)
  simpa [Nat.shiftRight_eq_div_pow] using this
theorem xor_par (a b : Nat) : (a ^^^ b) % 2 = (a + b) % 2 := by
  have h := Nat.testBit_xor a b 0
  rw [Nat.testBit_zero, Nat.testBit_zero, Nat.testBit_zero] at h
  rcases Nat.mod_two_eq_zero_or_one a with ha | ha <;> rcases Nat.mod_two_eq_zero_or_one b with hb | hb <;> rcases Nat.mod_two_eq_zero_or_one (a ^^^ b) with hc | hc <;> simp [ha, hb, hc] at h <;> omega
theorem step_lin (p a b : Nat) : (if (a ^^^ b) % 2 = 1 then (a ^^^ b) / 2 ^^^ p else (a ^^^ b) / 2) = (if a % 2 = 1 then a / 2 ^^^ p else a / 2) ^^^ (if b % 2 = 1 then b / 2 ^^^ p else b / 2) := by
  rw [xor_half, xor_par]
  rcases Nat.mod_two_eq_zero_or_one a with ha | ha <;> rcases Nat.mod_two_eq_zero_or_one b with hb | hb
  · have : (a + b) % 2 = 0 := by omega
    simp [ha, hb, this]
  · have : (a + b) % 2 = 1 := by omega
    simp [ha, hb, this, Nat.xor_assoc]
  · have : (a + b) % 2 = 1 := by omega
    simp [ha, hb, this, Nat.xor_assoc, Nat.xor_comm p]
  · have : (a + b) % 2 = 0 := by omega
    simp only [ha, hb, this, if_true]
    rw [if_neg (by decide)]
    have e : a / 2 ^^^ p ^^^ (b / 2 ^^^ p) = a / 2 ^^^ (p ^^^ (p ^^^ b / 2)) := by rw [Nat.xor_comm (b / 2) p, Nat.xor_assoc]
    rw [e, xor_twice]
theorem step1_xor (a b : Nat) : step1 (a ^^^ b) = step1 a ^^^ step1 b := by
  rw [step1.eq_1, step1.eq_1, step1.eq_1]; exact step_lin _ a b
theorem step1_zero : step1 0 = 0 := by decide
theorem step1_even (x : Nat) : step1 (2 * x) = x := by
  rw [step1.eq_1, if_neg (by omega)]; omega
theorem step1_ne {a : Nat} (h : a < 2 ^ 32) (h0 : a ≠ 0) : step1 a ≠ 0 := by
  rw [step1.eq_1]
  split
  · intro e
    have : a / 2 = 3988292384 := by
      have h2 := congrArg (fun x => x ^^^ 3988292384) e
      simp only [Nat.xor_assoc, Nat.xor_self, Nat.xor_zero, Nat.zero_xor] at h2
      exact h2
    omega
  · omega
theorem steps_add : ∀ (m n r : Nat), steps (m + n) r = steps n (steps m r)
  | 0, n, r => by rw [Nat.zero_add]; rfl
  | m + 1, n, r => by rw [Nat.add_right_comm]; exact steps_add m n (step1 r)
theorem steps_xor : ∀ (n a b : Nat), steps n (a ^^^ b) = steps n a ^^^ steps n b
  | 0, a, b => rfl
  | n + 1, a, b => by simp only [steps]; rw [step1_xor]; exact steps_xor n _ _
theorem steps_pow : ∀ (n x : Nat), steps n (2 ^ n * x) = x
  | 0, x => by simp [steps]
  | n + 1, x => by
    simp only [steps]
    have : 2 ^ (n + 1) * x = 2 * (2 ^ n * x) := by rw [Nat.pow_succ]; simp [Nat.mul_comm, Nat.mul_left_comm]
    rw [this, step1_even]
    exact steps_pow n x
theorem steps_ne : ∀ (n : Nat) {a : Nat}, a < 2 ^ 32 → a ≠ 0 → steps n a ≠ 0
  | 0, a, _, h => h
  | n + 1, a, hl, h => steps_ne n (step1_lt hl) (step1_ne hl h)

/-- The register behind bytes. -/
def reg (r : Nat) (l : List Nat) : Nat := l.foldl turnN r
theorem turnN_xor (a b c : Nat) : turnN (a ^^^ b) c = turnN a c ^^^ steps 8 b := by
  simp only [turnN]
  rw [← steps_xor]
  congr 1
  rw [Nat.xor_assoc, Nat.xor_comm b c, ← Nat.xor_assoc]
theorem reg_xor : ∀ (l : List Nat) (a b : Nat), reg (a ^^^ b) l = reg a l ^^^ steps (8 * l.length) b
  | [], a, b => rfl
  | c :: l, a, b => by
    show reg (turnN (a ^^^ b) c) l = reg (turnN a c) l ^^^ _
    rw [turnN_xor, reg_xor l, ← steps_add]
    congr 2
    simp; omega
theorem turnN_flip (r c j : Nat) (hj : j < 8) : turnN r (c ^^^ 2 ^ j) = turnN r c ^^^ steps (8 - j) 1 := by
  simp only [turnN]
  rw [← Nat.xor_assoc, steps_xor]
  congr 1
  have : 8 = j + (8 - j) := by omega
  rw [show steps 8 (2 ^ j) = steps (j + (8 - j)) (2 ^ j) by rw [← this], steps_add]
  have := steps_pow j 1
  rw [Nat.mul_one] at this
  rw [this]
theorem reg_append (r : Nat) (l m : List Nat) : reg r (l ++ m) = reg (reg r l) m := by simp [reg]
/-- A bit is turned. -/
theorem reg_flip (r : Nat) (l : List Nat) (i : Nat) (hi : i < 8 * l.length) : reg r (l.set (i / 8) (l[i / 8]?.getD 0 ^^^ 2 ^ (i % 8))) = reg r l ^^^ steps (8 * l.length - i) 1 := by
  have hk : i / 8 < l.length := by omega
  have hs : l = l.take (i / 8) ++ l[i / 8] :: l.drop (i / 8 + 1) := by rw [List.getElem_cons_drop]; exact (List.take_append_drop _ _).symm
  have hset : l.set (i / 8) (l[i / 8]?.getD 0 ^^^ 2 ^ (i % 8)) = l.take (i / 8) ++ (l[i / 8] ^^^ 2 ^ (i % 8)) :: l.drop (i / 8 + 1) := by
    rw [List.set_eq_take_append_cons_drop, if_pos hk, List.getElem?_eq_getElem hk]; rfl
  rw [hset, reg_append]
  have e1 : reg r l = reg (turnN (reg r (l.take (i / 8))) l[i / 8]) (l.drop (i / 8 + 1)) := by
    conv => lhs; rw [hs]
    rw [reg_append]; rfl
  rw [e1]
  show reg (turnN (reg r (l.take (i / 8))) (l[i / 8] ^^^ 2 ^ (i % 8))) (l.drop (i / 8 + 1)) = _
  rw [turnN_flip _ _ _ (Nat.mod_lt _ (by decide)), reg_xor, ← steps_add]
  congr 2
  simp only [List.length_drop]
  omega

theorem xor_low (d : Nat) : d = d % 256 ^^^ 256 * (d / 256) := by
  apply Nat.eq_of_testBit_eq
  intro i
  rw [Nat.testBit_xor]
  have h1 : (256 : Nat) = 2 ^ 8 := rfl
  rw [h1, Nat.testBit_mod_two_pow, Nat.testBit_two_pow_mul, Nat.testBit_div_two_pow]
  by_cases h : i < 8
  · simp [h, Nat.not_le.2 h]
  · have : 8 ≤ i := by omega
    simp [h, this]
theorem turn_low (r d : Nat) : steps 8 (r ^^^ d) = turnN r (d % 256) ^^^ d / 256 := by
  conv => lhs; rw [xor_low d]
  rw [← Nat.xor_assoc, steps_xor]
  have := steps_pow 8 (d / 256)
  rw [show (2 : Nat) ^ 8 = 256 from rfl] at this
  rw [this]; rfl
theorem reg_four (r d : Nat) (hd : d < 2 ^ 32) : reg r (fourN d) = steps 32 (r ^^^ d) := by
  have e : steps 32 (r ^^^ d) = steps 8 (steps 8 (steps 8 (steps 8 (r ^^^ d)))) := by
    rw [← steps_add, ← steps_add, ← steps_add]
  rw [e, turn_low, turn_low, turn_low, turn_low]
  have d1 : d / 256 / 256 = d / 65536 := by omega
  have d2 : d / 65536 / 256 = d / 16777216 := by omega
  have d3 : d / 16777216 / 256 = 0 := by omega
  rw [d1, d2, d3, Nat.xor_zero]
  rfl
theorem reg_sealed (r : Nat) (hr : r < 2 ^ 32) : reg r (fourN (notN r)) = steps 32 4294967295 := by
  rw [reg_four _ _ (notN_lt hr)]
  congr 1
  rw [notN.eq_1, Nat.xor_comm 4294967295 r, xor_twice]
theorem moreN_reg (l : List Nat) : moreN 0 l = notN (reg 4294967295 l) := by
  rw [moreN.eq_1]
  congr 1
theorem reg_lt {l : List Nat} (hl : Bytes l) : reg 4294967295 l < 2 ^ 32 := foldl_lt l _ hl (by decide)
/-- What holds has the one register behind it. -/
theorem holds_reg {l : List Nat} (hl : Bytes l) (h : holdsN l = true) : reg 4294967295 l = steps 32 4294967295 := by
  simp only [holdsN, Bool.and_eq_true, decide_eq_true_eq, beq_iff_eq] at h
  conv => lhs; rw [← List.take_append_drop (l.length - 4) l]
  rw [reg_append, ← h.2, moreN_reg]
  exact reg_sealed _ (reg_lt (bytes_take hl _))
theorem holds_sealed (l : List Nat) : holdsN (l ++ fourN (moreN 0 l)) = true := by
  have h4 : (fourN (moreN 0 l)).length = 4 := rfl
  simp [holdsN, h4]
/-- Bytes with a burst in them do not hold. -/
theorem burst {l m : List Nat} (hl : Bytes l) (hm : Bytes m) (h : holdsN l = true) {n mask : Nat} (h0 : mask ≠ 0) (hmask : mask < 2 ^ 32) (hr : reg 4294967295 m = reg 4294967295 l ^^^ steps n mask) : holdsN m = false := by
  cases hh : holdsN m with
  | false => rfl
  | true =>
    exfalso
    rw [holds_reg hm hh, holds_reg hl h] at hr
    have h2 := congrArg (fun x => steps 32 4294967295 ^^^ x) hr
    simp only [Nat.xor_self, xor_twice] at h2
    exact steps_ne n hmask h0 h2.symm
/-- One bit more of the mask. -/
theorem mask_step (mask k : Nat) : mask % 2 ^ (k + 1) = if mask / 2 ^ k % 2 = 1 then mask % 2 ^ k ^^^ 2 ^ k else mask % 2 ^ k := by
  apply Nat.eq_of_testBit_eq
  intro i
  have hb : mask.testBit k = decide (mask / 2 ^ k % 2 = 1) := Nat.testBit_eq_decide_div_mod_eq
  split
  · rename_i h
    rw [Nat.testBit_xor, Nat.testBit_mod_two_pow, Nat.testBit_mod_two_pow, Nat.testBit_two_pow]
    by_cases e : i = k
    · subst e; simp [hb, h]
    · have e2 : ¬ k = i := fun h => e h.symm
      have : (i < k + 1) = (i < k) := by apply propext; omega
      simp [e2, this]
  · rename_i h
    rw [Nat.testBit_mod_two_pow, Nat.testBit_mod_two_pow]
    by_cases e : i = k
    · subst e; simp [hb, h]
    · have : (i < k + 1) = (i < k) := by apply propext; omega
      simp [this]
end Go.Proofs.Ytfdckjliinpjiaa

/- The walk of the reference's bits. -/
namespace Go.Proofs.Ytfdckjliinpjiaa
open Go AVL
set_option linter.unusedVariables false
set_option linter.unusedSimpArgs false

def rawb (l : List Nat) (p : Nat) : Nat := l[p / 8]?.getD 0 / 2 ^ (p % 8) % 2
def rawbits (l : List Nat) (n : Nat) : List Nat := (List.range n).map (rawb l)
theorem rawbits_succ (l : List Nat) (n : Nat) : rawbits l (n + 1) = rawbits l n ++ [rawb l n] := by simp [rawbits, List.range_succ]
@[simp] theorem rawbits_length (l : List Nat) (n : Nat) : (rawbits l n).length = n := by simp [rawbits]
/-- A row of bytes that grows. -/
def Row (v : AV) (B : Heap) (xs : List Nat) : Prop := (xs = [] ∧ v = .nilS ∧ B = H0) ∨ ∃ g, v = .own g 0 xs.length ∧ B = H0.set g (.irow 5 .u8 (ints xs))

theorem w_ref02_bits (l : List Nat) (hl : Bytes l) (hn : l.length < 2 ^ 20) : SimX Try.prog F_ref02_bits [.isl .u8 (ints l)] H0 (fun o A' => ∃ v, o = .ret v ∧ Row v A' (rawbits l (8 * l.length))) := by
  refine i_ref02_bits (by simp) fun R hR => ?_
  simp -implicitDefEqProofs [a_ref02_bits, q_ref02_bits_0, q_ref02_bits_1, q_ref02_bits_2]
  refine X_loopS (fun (i : Nat) env B => i ≤ l.length ∧ env 0 = .isl .u8 (ints l) ∧ env 4 = .int .i64 i ∧ Row (env 3) B (rawbits l (8 * i))) (fun i => l.length - i) 0 H0 (Sub_refl _)
    ⟨by simp, by simp, by simp, .inl ⟨rfl, by simp, rfl⟩⟩ ?_
  rintro R' i env B ⟨h1, h2, h3, h4⟩ hN hE
  simp -implicitDefEqProofs [q_ref02_bits_L9, q_ref02_bits_3, h2, h3]
  refine ⟨fun hi => ?_, fun hi => ?_⟩
  · simp -implicitDefEqProofs [q_ref02_bits_4]
    refine X_loopS (fun (k : Nat) env B => k ≤ 8 ∧ env 0 = .isl .u8 (ints l) ∧ env 4 = .int .i64 i ∧ env 5 = .int .i64 k ∧ Row (env 3) B (rawbits l (8 * i + k))) (fun k => 8 - k) 0 B (Sub_refl _)
      ⟨by simp, by simp [h2], by simp [h3], by simp, by simpa using h4⟩ ?_
    rintro R2 k env B_ ⟨k1, k2, k3, k4, k5⟩ kN kE
    simp -implicitDefEqProofs [q_ref02_bits_L8, q_ref02_bits_5, k4]
    refine ⟨fun hk => ?_, fun hk => ?_⟩
    · have hd : (8 * i + k) / 8 = i := by omega
      have hm : (8 * i + k) % 8 = k := by omega
      have hx : l[i] < 256 := hl _ (List.getElem_mem hi)
      have hr : rawb l (8 * i + k) = l[i] / 2 ^ k % 2 := by simp [rawb, hd, hm, List.getElem?_eq_getElem hi]
      have s1 : shrI .u8 ((l[i] : Nat) : Int) (k : Int) = ((l[i] / 2 ^ k : Nat) : Int) := by rw [shrI_nat]; congr 3; simp [IntKind.bits]; omega
      have s2 : bAnd .u8 ((l[i] / 2 ^ k : Nat) : Int) 1 = ((rawb l (8 * i + k) : Nat) : Int) := by
        have := bAnd_nat (k := .u8) rfl (a := l[i] / 2 ^ k) (by have := Nat.div_le_self l[i] (2 ^ k); simp [IntKind.bits]; omega) (b := 1) (by decide)
        rw [Nat.and_one_is_mod] at this; rw [hr]; exact this
      have s3 : IntKind.u64.wrap (k : Int) = k := wrap_u64 (by omega)
      have s4 : IntKind.i64.wrap ((k : Int) + 1) = ((k + 1 : Nat) : Int) := by rw [wrap_i64 (by omega)]; simp
      have hs : rawbits l (8 * i + (k + 1)) = rawbits l (8 * i + k) ++ [rawb l (8 * i + k)] := rawbits_succ l _
      rcases k5 with ⟨e1, e2, rfl⟩ | ⟨g, e2, rfl⟩
      · simp -implicitDefEqProofs +contextual [q_ref02_bits_6, k2, k3, k4, e2, hi, s1, s2, s3, -Int.natCast_ediv, -Int.natCast_emod, -Int.natCast_pow]
        intro g1 g2 _ _
        simp -implicitDefEqProofs [q_ref02_bits_7, k4, s4, -Int.natCast_add]
        refine kN (k + 1) _ _ (H0.set g2 (.irow 5 .u8 (ints (rawbits l (8 * i + (k + 1)))))) ?_ ⟨by omega, by simp [k2], by simp [k3], by simp, .inr ⟨g2, ?_, rfl⟩⟩ (by omega)
        · rw [hs, e1]; exact set_sub (H0_sub _)
        · simp [hs, e1]
      · simp -implicitDefEqProofs +contextual [q_ref02_bits_6, k2, k3, k4, e2, hi, s1, s2, s3, -Int.natCast_ediv, -Int.natCast_emod, -Int.natCast_pow]
        intro g1 _ _
        refine ⟨by omega, fun g2 _ _ _ _ => ?_⟩
        simp -implicitDefEqProofs [q_ref02_bits_7, k4, s4, -Int.natCast_add]
        refine kN (k + 1) _ _ (H0.set g2 (.irow 5 .u8 (ints (rawbits l (8 * i + (k + 1)))))) ?_ ⟨by omega, by simp [k2], by simp [k3], by simp, .inr ⟨g2, ?_, rfl⟩⟩ (by omega)
        · have : List.take (8 * i + k) (rawbits l (8 * i + k)) = rawbits l (8 * i + k) := List.take_of_length_le (by simp)
          rw [hs, this, ← ints_append]; exact set_sub (H0_sub _)
        · simp [hs]
    · refine kE _ _ _ (by simp) ?_
      have hk8 : k = 8 := by omega
      subst hk8
      have s4 : IntKind.i64.wrap ((i : Int) + 1) = ((i + 1 : Nat) : Int) := by rw [wrap_i64 (by omega)]; simp
      simp -implicitDefEqProofs [q_ref02_bits_8, k3, s4, -Int.natCast_add]
      exact hN (i + 1) _ _ B_ (Sub_refl _) ⟨hi, by simp [k2], by simp, by simpa [Nat.mul_add] using k5⟩ (by omega)
  · refine hE _ _ _ (by simp) ?_
    have : i = l.length := by omega
    subst this
    simp -implicitDefEqProofs [q_ref02_bits_9]
    refine hR _ _ _ ?_
    simp [a_ref02_bits, fpost]
    exact ⟨B, Sub_refl _, h4⟩
end Go.Proofs.Ytfdckjliinpjiaa

/- The plain law behind CrcSums: the division's window is the register. -/
namespace Go.Proofs.Ytfdckjliinpjiaa
open Go AVL
set_option linter.unusedVariables false
set_option linter.unusedSimpArgs false

/-- The register, bit by bit. -/
def rb (l : List Nat) : Nat → Nat
  | 0 => 4294967295
  | i + 1 => step1 (rb l i ^^^ rawb l i)
theorem rawb_lt (l : List Nat) (p : Nat) : rawb l p < 2 := Nat.mod_lt _ (by decide)
theorem rb_lt (l : List Nat) : ∀ i, rb l i < 2 ^ 32
  | 0 => by simp [rb]
  | i + 1 => step1_lt (Nat.xor_lt_two_pow (rb_lt l i) (by have := rawb_lt l i; omega))
theorem rb_byte (l : List Nat) (j : Nat) : ∀ t, t ≤ 8 → rb l (8 * j + t) = steps t (rb l (8 * j) ^^^ (l[j]?.getD 0 % 2 ^ t))
  | 0, _ => by simp [steps, Nat.mod_one]
  | t + 1, h => by
    have ih := rb_byte l j t (by omega)
    have hd : (8 * j + t) / 8 = j := by omega
    have hm : (8 * j + t) % 8 = t := by omega
    have e1 : rb l (8 * j + (t + 1)) = step1 (rb l (8 * j + t) ^^^ rawb l (8 * j + t)) := rfl
    have hraw : rawb l (8 * j + t) = l[j]?.getD 0 / 2 ^ t % 2 := by simp [rawb, hd, hm]
    rw [e1, ih, hraw]
    generalize l[j]?.getD 0 = c
    have hp := steps_pow t (c / 2 ^ t % 2)
    have e2 : steps t (rb l (8 * j) ^^^ c % 2 ^ t) ^^^ (c / 2 ^ t % 2) = steps t (rb l (8 * j) ^^^ c % 2 ^ t ^^^ 2 ^ t * (c / 2 ^ t % 2)) := by rw [steps_xor t _ (2 ^ t * _), hp]
    rw [e2]
    have e3 : ∀ x, step1 (steps t x) = steps (t + 1) x := fun x => by rw [steps_add]; rfl
    rw [e3, mask_step, Nat.xor_assoc]
    congr 2
    rcases Nat.mod_two_eq_zero_or_one (c / 2 ^ t) with h0 | h0
    · simp [h0]
    · simp [h0]
theorem rb_reg (l : List Nat) (hl : Bytes l) : ∀ j, j ≤ l.length → rb l (8 * j) = reg 4294967295 (l.take j)
  | 0, _ => rfl
  | j + 1, h => by
    have ih := rb_reg l hl j (by omega)
    have hb := rb_byte l j 8 (Nat.le_refl _)
    have hc : l[j]?.getD 0 = l[j] := by rw [List.getElem?_eq_getElem (by omega)]; rfl
    have hlt : l[j] < 256 := hl _ (List.getElem_mem (by omega))
    rw [show 8 * (j + 1) = 8 * j + 8 by omega, hb, ih, hc, Nat.mod_eq_of_lt (by omega), List.take_add_one, reg_append]
    rw [List.getElem?_eq_getElem (by omega)]
    rfl

def bt (r j : Nat) : Nat := (r.testBit j).toNat
theorem bt_lt (r j : Nat) : bt r j < 2 := by unfold bt; cases r.testBit j <;> decide
theorem bt_xor (a b j : Nat) : bt (a ^^^ b) j = bt a j ^^^ bt b j := by
  unfold bt
  rw [Nat.testBit_xor]
  cases a.testBit j <;> cases b.testBit j <;> rfl
theorem bt_half (a j : Nat) : bt (a / 2) j = bt a (j + 1) := by
  unfold bt; rw [Nat.testBit_add_one]
theorem bt_zero (a : Nat) : bt a 0 = a % 2 := by
  unfold bt
  rw [Nat.testBit_zero]
  rcases Nat.mod_two_eq_zero_or_one a with h | h <;> simp [h]
theorem bt_big {r j : Nat} (h : r < 2 ^ 32) (hj : 32 ≤ j) : bt r j = 0 := by
  unfold bt
  rw [Nat.testBit_lt_two_pow (Nat.lt_of_lt_of_le h (Nat.pow_le_pow_right (by decide) hj))]
  rfl
def poly : List Nat := [1, 0, 0, 0, 0, 0, 1, 0, 0, 1, 1, 0, 0, 0, 0, 0, 1, 0, 0, 0, 1, 1, 1, 0, 1, 1, 0, 1, 1, 0, 1, 1, 1]
theorem poly_bt : ∀ j, j < 32 → poly[j + 1]?.getD 0 = bt 3988292384 j := by decide
/-- One step of the division, seen at a place behind it. -/
theorem div_bit (l : List Nat) (i j : Nat) : bt (rb l (i + 1)) j = bt (rb l i) (j + 1) ^^^ (if (bt (rb l i) 0 ^^^ rawb l i) = 1 then bt 3988292384 j else 0) := by
  have hr := rawb_lt l i
  have e1 : rb l (i + 1) = step1 (rb l i ^^^ rawb l i) := rfl
  have h2 : rawb l i / 2 = 0 := by omega
  have hpar : (rb l i ^^^ rawb l i) % 2 = bt (rb l i) 0 ^^^ rawb l i := by
    rw [← bt_zero, bt_xor]
    congr 1
    rw [bt_zero]; omega
  rw [e1, step1.eq_1, hpar]
  split
  · rw [bt_xor, xor_half, h2, Nat.xor_zero, bt_half]
  · rw [xor_half, h2, Nat.xor_zero, bt_half, Nat.xor_zero]
end Go.Proofs.Ytfdckjliinpjiaa

/- Tables, and calls that return rows. -/
namespace Go.Proofs.Ytfdckjliinpjiaa
open Go AVL
set_option linter.unusedVariables false
set_option linter.unusedSimpArgs false

def tab (M : Nat) (F : Nat → Nat) : List Nat := (List.range M).map F
@[simp] theorem tab_length (M : Nat) (F : Nat → Nat) : (tab M F).length = M := by simp [tab]
theorem tab_get {M : Nat} {F : Nat → Nat} {p : Nat} (h : p < (tab M F).length) : (tab M F)[p] = F p := by simp [tab]
theorem tab_set (M : Nat) (F : Nat → Nat) (p v : Nat) : (tab M F).set p v = tab M (fun q => if q = p then v else F q) := by
  apply List.ext_getElem
  · simp
  · intro q h1 h2
    rw [List.getElem_set, tab_get, tab_get]
    by_cases e : p = q
    · subst e; simp
    · have : ¬ q = p := fun h => e h.symm
      simp [e, this]
theorem tab_ext {M : Nat} {F G : Nat → Nat} (h : ∀ p, p < M → F p = G p) : tab M F = tab M G :=
  List.map_congr_left fun p hp => h p (List.mem_range.1 hp)
theorem rawb_out (l : List Nat) {p : Nat} (h : 8 * l.length ≤ p) : rawb l p = 0 := by
  have : l.length ≤ p / 8 := by omega
  simp [rawb, List.getElem?_eq_none this]
theorem raw_tab (l : List Nat) (z : Nat) : rawbits l (8 * l.length) ++ List.replicate z 0 = tab (8 * l.length + z) (rawb l) := by
  apply List.ext_getElem
  · simp
  · intro p h1 h2
    rw [tab_get]
    by_cases h : p < 8 * l.length
    · rw [List.getElem_append_left (by simpa using h)]
      simp [rawbits]
    · rw [List.getElem_append_right (by simp; omega), rawb_out l (by omega)]
      simp
/-- One bit more. -/
theorem mask_or (r k : Nat) : r % 2 ^ k ||| bt r k * 2 ^ k = r % 2 ^ (k + 1) := by
  apply Nat.eq_of_testBit_eq
  intro i
  rw [Nat.testBit_or, Nat.testBit_mod_two_pow, Nat.testBit_mod_two_pow]
  have hb : (bt r k * 2 ^ k).testBit i = (decide (i = k) && r.testBit k) := by
    unfold bt
    cases hk : r.testBit k with
    | false => simp
    | true =>
      simp only [Bool.toNat_true, Nat.one_mul, Nat.testBit_two_pow, Bool.and_true]
      by_cases e : k = i
      · subst e; simp
      · have : ¬ i = k := fun h => e h.symm
        simp [e, this]
  rw [hb]
  by_cases e : i = k
  · subst e; simp
  · have : (i < k + 1) = (i < k) := by apply propext; omega
    simp [e, this]
theorem call_row {P : Program} {f : FuncId} {args args' : List AV} {xs : List Nat} {A : Heap} {K Kp : AV → Heap → Prop} (h : SimX P f args' H0 (fun o A' => ∃ v, o = .ret v ∧ Row v A' xs)) (hv : VwL A args args')
    (h0 : xs = [] → K .nilS A) (hk : ∀ g, A g = none → K (.own g 0 xs.length) (A.set g (.irow 5 .u8 (ints xs)))) : SimX P f args A (outK K Kp) := by
  refine SimX.view h hv ?_ ?_
  · rintro o B ⟨v, rfl, ⟨h1, rfl, rfl⟩ | ⟨g, rfl, rfl⟩⟩
    · exact ⟨rfl, fun g c hc => by cases hc⟩
    · refine ⟨rfl, fun g' c' hc => ?_⟩
      rw [set_app] at hc
      split at hc
      · injection hc with hc; subst hc; rfl
      · cases hc
  · rintro o B ⟨v, rfl, ⟨h1, rfl, rfl⟩ | ⟨g, rfl, rfl⟩⟩ hd
    · rw [join_H0]; exact h0 h1
    · have := hd g (.irow 5 .u8 (ints xs)) (by simp)
      rw [join_set A this]; exact hk g this
end Go.Proofs.Ytfdckjliinpjiaa

/- The walk of the reference's division. -/
namespace Go.Proofs.Ytfdckjliinpjiaa
open Go AVL
set_option linter.unusedVariables false
set_option linter.unusedSimpArgs false

theorem xor_one (x : Nat) (h : x < 2) : 1 - x = 1 ^^^ x := by
  rcases (by omega : x = 0 ∨ x = 1) with rfl | rfl <;> rfl
theorem xor_lt2 {a b : Nat} (ha : a < 2) (hb : b < 2) : a ^^^ b < 2 := Nat.xor_lt_two_pow (n := 1) ha hb
theorem ones_bt (p : Nat) : bt 4294967295 p = if p < 32 then 1 else 0 := by
  unfold bt
  have : (4294967295 : Nat) = 2 ^ 32 - 1 := rfl
  rw [this, Nat.testBit_two_pow_sub_one]
  by_cases h : p < 32 <;> simp [h]
theorem poly_lt (k : Nat) : poly[k]?.getD 0 < 2 := by
  by_cases h : k < 33
  · revert k; decide
  · have : poly.length ≤ k := by simp [poly]; omega
    simp [List.getElem?_eq_none this]

theorem set_swap {A : Heap} {g h : Nat} {c d : Cont} (e : ¬ g = h) : (A.set h d).set g c = (A.set g c).set h d := by
  funext x
  simp only [set_app]
  by_cases h1 : x = g
  · subst h1; simp [e]
  · simp [h1]

theorem w_ref02_Of (l : List Nat) (hl : Bytes l) (hn : l.length < 2 ^ 20) : Gives Try.prog F_ref02_Of [.isl .u8 (ints l)] (.int .u32 (moreN 0 l)) := by
  refine i_ref02_Of (by simp) fun R hR => ?_
  obtain ⟨M, hM⟩ : ∃ M, M = 8 * l.length + 32 := ⟨_, rfl⟩
  have main : ∀ (g : Nat) (env : AEnv) (A : Heap), (H0.set g (.irow 5 .u8 (ints (tab M (rawb l))))).Sub A → env 3 = .own g 0 M → env 4 = .int .i64 0 →
      X Try.prog R (.loop q_ref02_Of_L6) (.blk 0 (.thn (.seq (.region q_ref02_Of_6) (.seq (.seq (.region q_ref02_Of_7) (.block 2 (.loop q_ref02_Of_L15))) (.seq (.region q_ref02_Of_15) (.seq (.region q_ref02_Of_16) (.seq (.seq (.region q_ref02_Of_17) (.block 6 (.loop q_ref02_Of_L21))) (.seq (.region q_ref02_Of_21) .ret)))))) .done)) env A := by
    intro g env A hA e3 e4
    refine X_loopS (fun (i : Nat) env B => i ≤ 32 ∧ env 3 = .own g 0 M ∧ env 4 = .int .i64 i ∧ B = H0.set g (.irow 5 .u8 (ints (tab M fun p => if p < i then 1 - rawb l p else rawb l p)))) (fun i => 32 - i) 0 _ hA
      ⟨by simp, e3, by simpa using e4, by simp⟩ ?_
    rintro R' i env B ⟨h1, h2, h3, rfl⟩ hN hE
    simp -implicitDefEqProofs [q_ref02_Of_L6, q_ref02_Of_3, h3]
    refine ⟨fun hi => ?_, fun hi => ?_⟩
    · have hiM : i < M := by omega
      have r2 := rawb_lt l i
      have s1 : IntKind.u8.wrap (1 - ((rawb l i : Nat) : Int)) = ((1 - rawb l i : Nat) : Int) := by rw [wrap_u8 (by omega)]; omega
      have s4 : IntKind.i64.wrap ((i : Int) + 1) = ((i + 1 : Nat) : Int) := by rw [wrap_i64 (by omega)]; simp
      simp -implicitDefEqProofs [q_ref02_Of_4, h2, h3, hiM, tab_get, s1]
      simp -implicitDefEqProofs [q_ref02_Of_5, h3, s4, -Int.natCast_add]
      refine hN (i + 1) _ _ _ (Sub_refl _) ⟨by omega, by simp [h2], by simp, ?_⟩ (by omega)
      rw [tab_set]
      congr 3
      refine tab_ext fun p _ => ?_
      by_cases e : p = i
      · subst e; simp
      · have : (p < i + 1) = (p < i) := by apply propext; omega
        simp [e, this]
    · refine hE _ _ _ (by simp) ?_
      have : i = 32 := by omega
      subst this
      simp -implicitDefEqProofs +contextual [q_ref02_Of_6, h2]
      intro g5 hg5 hg5'
      simp -implicitDefEqProofs [q_ref02_Of_7]
      refine X_loopS (fun (s : Nat × (Nat → Nat)) env B => s.1 + 32 ≤ M ∧ env 3 = .own g 0 M ∧ env 5 = .own g5 0 33 ∧ env 6 = .int .i64 s.1 ∧ (∀ p, s.2 p < 2) ∧ (∀ p, s.1 ≤ p → p < M → s.2 p = bt (rb l s.1) (p - s.1) ^^^ rawb l p) ∧
          B = (H0.set g (.irow 5 .u8 (ints (tab M s.2)))).set g5 (.irow 5 .u8 (ints poly))) (fun s => M - s.1) (0, fun p => if p < 32 then 1 - rawb l p else rawb l p) _ (Sub_refl _)
        ⟨by simp; omega, by simp [h2], by simp, by simp, ?_, ?_, rfl⟩ ?_
      · intro p
        have := rawb_lt l p
        simp only
        split <;> omega
      · intro p _ hp
        have r2 := rawb_lt l p
        simp only [Nat.sub_zero, rb, ones_bt]
        split
        · exact xor_one _ r2
        · rw [Nat.zero_xor]
      · rintro R2 ⟨i, G⟩ env B ⟨d1, d2, d3, d4, d5, d6, rfl⟩ dN dE
        simp only at d1 d4 d5 d6
        have t1 : IntKind.i64.wrap ((i : Int) + 32) = ((i + 32 : Nat) : Int) := by rw [wrap_i64 (by omega)]; simp
        simp -implicitDefEqProofs [q_ref02_Of_L15, q_ref02_Of_8, d2, d4, t1, -Int.natCast_add]
        refine ⟨fun hi => ?_, fun hi => ?_⟩
        · have hiM : i < M := by omega
          have hbit := d6 i (Nat.le_refl i) hiM
          rw [Nat.sub_self] at hbit
          have hdv := div_bit l i
          rw [← hbit] at hdv
          have s4 : IntKind.i64.wrap ((i : Int) + 1) = ((i + 1 : Nat) : Int) := by rw [wrap_i64 (by omega)]; simp
          simp -implicitDefEqProofs [q_ref02_Of_9, d2, d4, hg5', hiM, tab_get, -Int.natCast_add]
          refine ⟨fun hb => ?_, fun hb => ?_⟩
          · have hb' : G i = 1 := by omega
            simp -implicitDefEqProofs [q_ref02_Of_10]
            refine X_loopS (fun (k : Nat) env B => k ≤ 33 ∧ env 3 = .own g 0 M ∧ env 5 = .own g5 0 33 ∧ env 6 = .int .i64 i ∧ env 7 = .int .i64 k ∧
                B = (H0.set g (.irow 5 .u8 (ints (tab M fun p => if i ≤ p ∧ p < i + k then G p ^^^ poly[p - i]?.getD 0 else G p)))).set g5 (.irow 5 .u8 (ints poly))) (fun k => 33 - k) 0 _ (Sub_refl _)
              ⟨by simp, by simp [d2], by simp [d3], by simp [d4], by simp, ?_⟩ ?_
            · congr 4
              refine tab_ext fun p _ => ?_
              rw [if_neg (by omega)]
            · rintro R3 k env B ⟨f1, f2, f3, f4, f5, rfl⟩ fN fE
              simp -implicitDefEqProofs [q_ref02_Of_L14, q_ref02_Of_11, f5]
              refine ⟨fun hk => ?_, fun hk => ?_⟩
              · have hk33 : k < 33 := by omega
                have hx : i + k < M := by omega
                have u1 : IntKind.i64.wrap ((i : Int) + (k : Int)) = ((i + k : Nat) : Int) := by rw [wrap_i64 (by omega)]; simp
                have u2 : IntKind.i64.wrap ((k : Int) + 1) = ((k + 1 : Nat) : Int) := by rw [wrap_i64 (by omega)]; simp
                have hpl : k < poly.length := hk33
                have hpg : poly[k]?.getD 0 = poly[k] := by rw [List.getElem?_eq_getElem hpl]; rfl
                have hp2 := poly_lt k
                rw [hpg] at hp2
                have hG2 := d5 (i + k)
                have u3 : bXor .u8 ((G (i + k) : Nat) : Int) ((poly[k] : Nat) : Int) = ((G (i + k) ^^^ poly[k] : Nat) : Int) := bXor_nat rfl (by simp [IntKind.bits]; omega) (by simp [IntKind.bits]; omega)
                simp -implicitDefEqProofs [q_ref02_Of_12, q_ref02_Of_13, f2, f3, f4, f5, u1, u2, u3, hg5', hx, hk33, hpl, tab_get, -Int.natCast_add]
                refine ⟨hk, fN (k + 1) _ _ _ ?_ ⟨by omega, by simp [f2], by simp [f3], by simp [f4], by simp, rfl⟩ (by omega)⟩
                rw [tab_set, set_swap hg5']
                rw [show (tab M fun q => if q = i + k then G (i + k) ^^^ poly[k] else if i ≤ q ∧ q < i + k then G q ^^^ poly[q - i]?.getD 0 else G q) = tab M (fun p => if i ≤ p ∧ p < i + (k + 1) then G p ^^^ poly[p - i]?.getD 0 else G p) from tab_ext fun p _ => by
                  by_cases e : p = i + k
                  · subst e
                    rw [if_pos rfl, if_pos (by omega), Nat.add_sub_cancel_left, hpg]
                  · rw [if_neg e]
                    by_cases e2 : i ≤ p ∧ p < i + k
                    · rw [if_pos e2, if_pos (by omega)]
                    · rw [if_neg e2, if_neg (by omega)]]
                rw [set_set]
                exact Sub_refl _
              · refine fE _ _ _ (by simp) ?_
                have : k = 33 := by omega
                subst this
                simp -implicitDefEqProofs [q_ref02_Of_14, f4, s4, -Int.natCast_add]
                refine dN (i + 1, fun p => if i ≤ p ∧ p < i + 33 then G p ^^^ poly[p - i]?.getD 0 else G p) _ _ _ (Sub_refl _) ⟨by simp only; omega, by simp [f2], by simp [f3], by simp, ?_, ?_, rfl⟩ (by simp only; omega)
                · intro p
                  simp only
                  split
                  · exact xor_lt2 (d5 p) (poly_lt _)
                  · exact d5 p
                · intro p hp hpM
                  simp only at hp ⊢
                  obtain ⟨q, rfl⟩ : ∃ q, p = i + (q + 1) := ⟨p - i - 1, by omega⟩
                  have e1 : i + (q + 1) - (i + 1) = q := by omega
                  have e2 : i + (q + 1) - i = q + 1 := by omega
                  have hG := d6 (i + (q + 1)) (by omega) hpM
                  rw [e2] at hG
                  have hd := hdv q
                  rw [if_pos hb'] at hd
                  rw [e1, e2, hd, hG]
                  by_cases hq : q < 32
                  · rw [if_pos (by omega), poly_bt q hq, Nat.xor_assoc, Nat.xor_assoc, Nat.xor_comm (rawb l (i + (q + 1)))]
                  · rw [if_neg (by omega), bt_big (r := 3988292384) (by decide) (by omega), Nat.xor_zero]
          · have hb' : ¬ G i = 1 := by omega
            simp -implicitDefEqProofs [q_ref02_Of_14, d4, s4, -Int.natCast_add]
            refine dN (i + 1, G) _ _ _ (Sub_refl _) ⟨by simp only; omega, by simp [d2], by simp [d3], by simp, d5, ?_, rfl⟩ (by simp only; omega)
            intro p hp hpM
            simp only at hp ⊢
            obtain ⟨q, rfl⟩ : ∃ q, p = i + (q + 1) := ⟨p - i - 1, by omega⟩
            have e1 : i + (q + 1) - (i + 1) = q := by omega
            have e2 : i + (q + 1) - i = q + 1 := by omega
            have hG := d6 (i + (q + 1)) (by omega) hpM
            rw [e2] at hG
            have hd := hdv q
            rw [if_neg hb', Nat.xor_zero] at hd
            rw [e1, hd, hG]
        · refine dE _ _ _ (by simp) ?_
          have hiN : i = 8 * l.length := by omega
          have hrN : rb l i = reg 4294967295 l := by rw [hiN, rb_reg l hl _ (Nat.le_refl _), List.take_length]
          have w1 : IntKind.i64.wrap ((M : Int) - 32) = ((i : Nat) : Int) := by rw [wrap_i64 (by omega)]; omega
          simp -implicitDefEqProofs [q_ref02_Of_15, q_ref02_Of_16, q_ref02_Of_17, d2, w1]
          refine X_loopS (fun (k : Nat) env B => k ≤ 32 ∧ env 3 = .own g 0 M ∧ env 8 = .int .u32 ((notN (rb l i) % 2 ^ k : Nat) : Int) ∧ env 9 = .int .i64 i ∧ env 10 = .int .i64 k ∧
              B = H0.set g (.irow 5 .u8 (ints (tab M G)))) (fun k => 32 - k) 0 (H0.set g (.irow 5 .u8 (ints (tab M G)))) ?_
            ⟨by simp, by simp [d2], by simp [Nat.mod_one], by simp, by simp, rfl⟩ ?_
          · rw [← set_swap hg5']; exact set_sub (H0_sub _)
          · rintro R3 k env B ⟨f1, f2, f3, f4, f5, rfl⟩ fN fE
            simp -implicitDefEqProofs [q_ref02_Of_L21, q_ref02_Of_18, f5]
            refine ⟨fun hk => ?_, fun hk => ?_⟩
            · have hk32 : k < 32 := by omega
              have hx : i + k < M := by omega
              have hrl := rb_lt l i
              have hG := d6 (i + k) (by omega) hx
              rw [Nat.add_sub_cancel_left, rawb_out l (by omega), Nat.xor_zero] at hG
              have hb2 := bt_lt (rb l i) k
              have hnb : 1 - G (i + k) = bt (notN (rb l i)) k := by
                rw [hG, xor_one _ hb2, notN.eq_1, bt_xor, ones_bt, if_pos hk32]
              have hnlt := bt_lt (notN (rb l i)) k
              have v1 : IntKind.i64.wrap ((i : Int) + (k : Int)) = ((i + k : Nat) : Int) := by rw [wrap_i64 (by omega)]; simp
              have v2 : IntKind.i64.wrap ((k : Int) + 1) = ((k + 1 : Nat) : Int) := by rw [wrap_i64 (by omega)]; simp
              have v3 : IntKind.u8.wrap (1 - ((G (i + k) : Nat) : Int)) = ((bt (notN (rb l i)) k : Nat) : Int) := by
                rw [wrap_u8 (by omega), ← hnb]; omega
              have v4 : IntKind.u32.wrap ((bt (notN (rb l i)) k : Nat) : Int) = ((bt (notN (rb l i)) k : Nat) : Int) := wrap_u32 (by omega)
              have v5 : IntKind.u64.wrap (k : Int) = (k : Int) := wrap_u64 (by omega)
              have hp : 2 ^ k ≤ 2 ^ 31 := Nat.pow_le_pow_right (by decide) (by omega)
              have hmul : bt (notN (rb l i)) k * 2 ^ k < 2 ^ 32 := by
                have : bt (notN (rb l i)) k * 2 ^ k ≤ 1 * 2 ^ k := Nat.mul_le_mul_right _ (by omega)
                omega
              have v6 : shlI .u32 ((bt (notN (rb l i)) k : Nat) : Int) (k : Int) = ((bt (notN (rb l i)) k * 2 ^ k : Nat) : Int) := by
                have hm : min k IntKind.u32.bits = k := by simp [IntKind.bits]; omega
                unfold shlI
                rw [Int.toNat_natCast, hm]
                have : ((bt (notN (rb l i)) k : Nat) : Int) * (2 : Int) ^ k = ((bt (notN (rb l i)) k * 2 ^ k : Nat) : Int) := by norm_cast
                rw [this]
                exact bits_lt (k := .u32) hmul rfl
              have hacc : notN (rb l i) % 2 ^ k < 2 ^ 32 := Nat.lt_of_le_of_lt (Nat.mod_le _ _) (notN_lt hrl)
              have v7 : bOr .u32 ((notN (rb l i) % 2 ^ k : Nat) : Int) ((bt (notN (rb l i)) k * 2 ^ k : Nat) : Int) = ((notN (rb l i) % 2 ^ (k + 1) : Nat) : Int) := by
                rw [bOr_nat rfl hacc hmul, mask_or]
              simp -implicitDefEqProofs [q_ref02_Of_19, q_ref02_Of_20, f2, f3, f4, f5, v1, v2, v3, v4, v5, v6, v7, hx, tab_get, -Int.natCast_add, -Int.natCast_emod, -Int.natCast_mul, -Int.natCast_pow]
              refine fN (k + 1) _ _ _ (Sub_refl _) ⟨by omega, by simp [f2], by simp, by simp [f4], by simp, rfl⟩ (by omega)
            · refine fE _ _ _ (by simp) ?_
              have : k = 32 := by omega
              subst this
              simp -implicitDefEqProofs [q_ref02_Of_21, f3]
              refine hR _ _ _ ?_
              have hfin : notN (rb l i) % 2 ^ 32 = moreN 0 l := by
                rw [Nat.mod_eq_of_lt (notN_lt (rb_lt l i)), moreN_reg, hrN]
              simp only [a_ref02_Of, fpost, aress, upd_app, outOf]
              refine ⟨H0, H0_sub _, ?_, rfl⟩
              have : ((notN (rb l i) : Nat) : Int) % 4294967296 = ((moreN 0 l : Nat) : Int) := by rw [← hfin]; rfl
              simp [this]
  simp -implicitDefEqProofs [a_ref02_Of, q_ref02_Of_0, q_ref02_Of_1]
  refine call_row (w_ref02_bits l hl hn) (.cons (.refl _) rfl .nil) ?_ ?_
  · intro hnil
    have hl0 : l.length = 0 := by have := congrArg List.length hnil; simp at this; omega
    simp -implicitDefEqProofs
    intro g
    have hz : [(0 : Int), 0, 0, 0, 0, 0, 0, 0, 0, 0, 0, 0, 0, 0, 0, 0, 0, 0, 0, 0, 0, 0, 0, 0, 0, 0, 0, 0, 0, 0, 0, 0] = ints (tab M (rawb l)) := by
      rw [hM, ← raw_tab, hnil]; rfl
    rw [hz]
    simp -implicitDefEqProofs [q_ref02_Of_2]
    refine main g _ _ (Sub_refl _) (by simp [hM, hl0]) (by simp)
  · intro g _
    simp -implicitDefEqProofs +contextual
    refine ⟨by omega, fun g2 _ _ => ?_⟩
    have hz : ints (List.take (8 * l.length) (rawbits l (8 * l.length))) ++ [(0 : Int), 0, 0, 0, 0, 0, 0, 0, 0, 0, 0, 0, 0, 0, 0, 0, 0, 0, 0, 0, 0, 0, 0, 0, 0, 0, 0, 0, 0, 0, 0, 0] = ints (tab M (rawb l)) := by
      rw [hM, ← raw_tab, ← ints_append, List.take_of_length_le (by simp)]; rfl
    rw [hz]
    simp -implicitDefEqProofs [q_ref02_Of_2]
    refine main g2 _ _ (Sub_refl _) (by simp [hM]) (by simp)
end Go.Proofs.Ytfdckjliinpjiaa

/- What a slot map's sector is. -/
namespace Go.Proofs.Ytfdckjliinpjiaa
open Go AVL
attribute [-simp] AV.isAgg aappI aapp alen shp good comps
set_option linter.unusedVariables false
set_option linter.unusedSimpArgs false
set_option maxRecDepth 20000

def Slots (l : List Nat) : Prop := ∀ x ∈ l, x ≤ 2
theorem Slots.bytes {l : List Nat} (h : Slots l) : Bytes l := fun x hx => by have := h x hx; omega
theorem Slots.take {l : List Nat} (h : Slots l) (n : Nat) : Slots (l.take n) := fun x hx => h x (List.mem_of_mem_take hx)
theorem Slots.getD {l : List Nat} (h : Slots l) (k : Nat) : l[k]?.getD 0 ≤ 2 := by
  by_cases hk : k < l.length
  · rw [List.getElem?_eq_getElem hk]; exact h _ (List.getElem_mem hk)
  · rw [List.getElem?_eq_none (by omega)]; simp
def pkv (l : List Nat) (j : Nat) : Nat := l[4 * j]?.getD 0 + 4 * l[4 * j + 1]?.getD 0 + 16 * l[4 * j + 2]?.getD 0 + 64 * l[4 * j + 3]?.getD 0
def pk (l : List Nat) : List Nat := tab ((l.length + 3) / 4) (pkv l)
theorem pkv_lt {l : List Nat} (h : Slots l) (j : Nat) : pkv l j < 256 := by
  have h0 := h.getD (4 * j)
  have h1 := h.getD (4 * j + 1)
  have h2 := h.getD (4 * j + 2)
  have h3 := h.getD (4 * j + 3)
  unfold pkv; omega
theorem pk_len (l : List Nat) : (pk l).length = (l.length + 3) / 4 := by simp [pk, tab]
theorem pk_bytes {l : List Nat} (h : Slots l) : Bytes (pk l) := fun x hx => by
  simp only [pk, tab, List.mem_map] at hx
  obtain ⟨j, _, rfl⟩ := hx
  exact pkv_lt h j
theorem take_getD (l : List Nat) (i k : Nat) : (l.take i)[k]?.getD 0 = if k < i then l[k]?.getD 0 else 0 := by
  rw [List.getElem?_take]; split <;> rfl
theorem pkv_other {l : List Nat} {i j : Nat} (h : j ≠ i / 4) : pkv (l.take (i + 1)) j = pkv (l.take i) j := by
  have key : ∀ k, k / 4 = j → (l.take (i + 1))[k]?.getD 0 = (l.take i)[k]?.getD 0 := fun k hk => by
    rw [take_getD, take_getD]
    by_cases e : k < i
    · rw [if_pos e, if_pos (by omega)]
    · rw [if_neg e, if_neg (fun e2 => h (by rw [← hk]; congr 1; omega))]
  unfold pkv
  rw [key _ (by omega), key _ (by omega), key _ (by omega), key _ (by omega)]
theorem or_add {a x n : Nat} (h : a < 2 ^ n) : a ||| x * 2 ^ n = a + x * 2 ^ n := by
  have := Nat.two_pow_add_eq_or_of_lt h x
  rw [Nat.or_comm, Nat.mul_comm x, ← this, Nat.add_comm]
theorem pkv_lo {l : List Nat} (h : Slots l) (i : Nat) : pkv (l.take i) (i / 4) < 2 ^ (2 * (i % 4)) := by
  have h0 := h.getD (4 * (i / 4))
  have h1 := h.getD (4 * (i / 4) + 1)
  have h2 := h.getD (4 * (i / 4) + 2)
  unfold pkv
  simp only [take_getD]
  rcases (by omega : i % 4 = 0 ∨ i % 4 = 1 ∨ i % 4 = 2 ∨ i % 4 = 3) with e | e | e | e
  · rw [e, if_neg (by omega), if_neg (by omega), if_neg (by omega), if_neg (by omega)]; decide
  · rw [e, if_pos (by omega), if_neg (by omega), if_neg (by omega), if_neg (by omega)]; omega
  · rw [e, if_pos (by omega), if_pos (by omega), if_neg (by omega), if_neg (by omega)]; omega
  · rw [e, if_pos (by omega), if_pos (by omega), if_pos (by omega), if_neg (by omega)]; omega
theorem pkv_step {l : List Nat} (h : Slots l) {i : Nat} (hi : i < l.length) : pkv (l.take i) (i / 4) + l[i] * 2 ^ (2 * (i % 4)) = pkv (l.take (i + 1)) (i / 4) := by
  have hg : l[i] = l[i]?.getD 0 := by rw [List.getElem?_eq_getElem hi]; rfl
  rw [hg]
  unfold pkv
  simp only [take_getD]
  rcases (by omega : i % 4 = 0 ∨ i % 4 = 1 ∨ i % 4 = 2 ∨ i % 4 = 3) with e | e | e | e
  · obtain ⟨q, rfl⟩ : ∃ q, i = 4 * q := ⟨i / 4, by omega⟩
    simp only [show 4 * q / 4 = q by omega, e]
    repeat (first | rw [if_pos (by omega)] | rw [if_neg (by omega)])
    omega
  · obtain ⟨q, rfl⟩ : ∃ q, i = 4 * q + 1 := ⟨i / 4, by omega⟩
    simp only [show (4 * q + 1) / 4 = q by omega, e]
    repeat (first | rw [if_pos (by omega)] | rw [if_neg (by omega)])
    omega
  · obtain ⟨q, rfl⟩ : ∃ q, i = 4 * q + 2 := ⟨i / 4, by omega⟩
    simp only [show (4 * q + 2) / 4 = q by omega, e]
    repeat (first | rw [if_pos (by omega)] | rw [if_neg (by omega)])
    omega
  · obtain ⟨q, rfl⟩ : ∃ q, i = 4 * q + 3 := ⟨i / 4, by omega⟩
    simp only [show (4 * q + 3) / 4 = q by omega, e]
    repeat (first | rw [if_pos (by omega)] | rw [if_neg (by omega)])
    omega
theorem pkv_or {l : List Nat} (h : Slots l) {i : Nat} (hi : i < l.length) : pkv (l.take i) (i / 4) ||| l[i] * 2 ^ (2 * (i % 4)) = pkv (l.take (i + 1)) (i / 4) := by
  rw [or_add (pkv_lo h i), pkv_step h hi]
/-- Sealed: so many bytes, noughts up to 252, and their sum. -/
def sealN (b : List Nat) : List Nat := b.take 252 ++ List.replicate (252 - b.length) 0 ++ fourN (moreN 0 (b.take 252 ++ List.replicate (252 - b.length) 0))
theorem sealN_len (b : List Nat) : (sealN b).length = 256 := by simp [sealN, fourN]; omega
theorem sealN_whole {b : List Nat} (h : b.length ≤ 252) : whole (((whole b).take 252) ++ fourN (moreN 0 ((whole b).take 252))) = sealN b := by
  have e : (whole b).take 252 = b.take 252 ++ List.replicate (252 - b.length) 0 := by
    unfold whole
    rw [List.take_append, List.take_take, List.take_replicate]
    congr 2
    simp; omega
  rw [e]
  unfold whole sealN
  have hl : (b.take 252 ++ List.replicate (252 - b.length) 0 ++ fourN (moreN 0 (b.take 252 ++ List.replicate (252 - b.length) 0))).length = 256 := by simp [fourN]; omega
  rw [List.take_of_length_le (by omega), hl]
  simp
theorem sealN_bytes {b : List Nat} (h : Bytes b) : Bytes (sealN b) := fun x hx => by
  simp only [sealN, List.mem_append] at hx
  rcases hx with (hx | hx) | hx
  · exact h x (List.mem_of_mem_take hx)
  · rw [List.eq_of_mem_replicate hx]; decide
  · exact bytes_four _ x hx
theorem sealN_holds {b : List Nat} : holdsN (sealN b) = true := holds_sealed _
end Go.Proofs.Ytfdckjliinpjiaa

/- The walks of a slot map's Put and of the reference's sealed sector. -/
namespace Go.Proofs.Ytfdckjliinpjiaa
open Go AVL
attribute [-simp] AV.isAgg aappI aapp alen shp good comps
set_option linter.unusedVariables false
set_option linter.unusedSimpArgs false
set_option maxRecDepth 20000

section
variable {A B C : Heap} {K Kp : AV → Heap → Prop} {P : Program}
theorem vw_irow {A : Heap} {g n : Nat} {e : TypeId} {k : IntKind} {l : List Int} (h : A g = some (.irow e k l)) (hn : n = l.length) : Vw A (.own g 0 n) (.isl k l) := by
  subst hn
  have := Vw.own (A := A) (i := 0) (n := l.length) h (by omega)
  rwa [List.drop_zero, List.take_length] at this
theorem vw_asl {A : Heap} {g m n : Nat} {t : TypeId} {k : IntKind} {l : List Int} (h : A g = some (.var t [.iarr k m l])) (hl : l.length = m) : Vw A (.asl g 0 m 0 n) (.isl k (l.take n)) := by
  have := Vw.asl (A := A) (o := 0) (m := m) (i := 0) (n := n) h (k := k) (xs := l) (by unfold getI; simp) hl
  rwa [List.drop_zero] at this
theorem w_Map_Put {g gs : Nat} {l : List Nat} (hm : MapIn g gs l A) (hl : Slots l) (hlen : l.length ≤ 1000) (hk : ∀ B, A.Sub B → K (.iarr .u8 256 (ints (sealN (pk l)))) B) :
    SimX Try.prog F_Pslotmap_Map_Put [.ptr g 0] A (outK K Kp) := by
  refine j_Pslotmap_Map_Put (by simp) ?_
  have w3 : IntKind.i64.wrap ((l.length : Int) + 3) = (l.length : Int) + 3 := wrap_i64 (by omega)
  have w4 : IntKind.i64.wrap (((l.length : Int) + 3).tdiv 4) = (((l.length + 3) / 4 : Nat) : Int) := by
    rw [Int.tdiv_eq_ediv_of_nonneg (by omega), wrap_i64 (by omega)]; omega
  obtain ⟨N, hN⟩ : ∃ N, (l.length + 3) / 4 = N := ⟨_, rfl⟩
  rw [hN] at w4
  simp -implicitDefEqProofs [a_Pslotmap_Map_Put, q_Pslotmap_Map_Put_0, q_Pslotmap_Map_Put_1, hm.cg, -List.reduceReplicate]
  intro g2 h2
  have n2 := fresh_ne hm.cg h2
  simp -implicitDefEqProofs [n2, hm.cg, w3, w4, -List.reduceReplicate]
  refine ⟨by omega, fun gb nb2 nb2' hb => ?_⟩
  have nb := fresh_ne hm.cg hb
  have nbs := fresh_ne hm.cs hb
  have ns2 := fresh_ne hm.cs h2
  obtain ⟨D, hD⟩ : ∃ D, (A.set g2 (.var 54 [AV.iarr .u8 256 (List.replicate 256 0)])) = D := ⟨_, rfl⟩
  have d2 : D g2 = some (.var 54 [AV.iarr .u8 256 (List.replicate 256 0)]) := by rw [← hD]; simp
  have dg : D g = some (.var T_slotmap_Map [.own gs 0 l.length]) := by rw [← hD]; simp [n2, hm.cg]
  have ds : D gs = some (.irow T_uint8 .u8 (ints l)) := by rw [← hD]; simp [ns2, hm.cs]
  have db : D gb = none := by rw [← hD]; simp [nb2, nb2', hb]
  have hA : A.Sub D := by rw [← hD]; exact sub_none h2
  rw [hD]
  clear hD
  simp -implicitDefEqProofs [q_Pslotmap_Map_Put_2, nb, dg, -List.reduceReplicate]
  refine X_lp (fun (j : Nat) env E => j ≤ l.length ∧ E = D.set gb (.irow 5 .u8 (ints (tab N (pkv (l.take j))))) ∧ env 2 = .ptr g2 0 ∧ env 3 = .own gb 0 N ∧ env 18 = .own gs 0 l.length ∧ env 19 = .int .i64 l.length ∧ env 20 = .int .i64 j) (fun j => l.length - j) 0
    ⟨by omega, ?_, by simp, by simp, by simp, by simp, by simp⟩ ?_
  · congr 2
    simp only [tab, List.take_zero]
    refine List.ext_getElem (by simp) fun k h1 h2 => ?_
    simp [ints, pkv]
  rintro j env E ⟨hj, rfl, e2, e3, e18, e19, e20⟩
  by_cases hjl : j < l.length
  · have hjl' : (j : Int) < l.length := by omega
    have wi : IntKind.i64.wrap ((j : Int) + 1) = (j : Int) + 1 := wrap_i64 (by omega)
    have hjN : j / 4 < N := by omega
    have t1 : IntKind.i64.wrap ((j : Int) / 4) = ((j / 4 : Nat) : Int) := by rw [wrap_i64 (by omega)]; omega
    have t3 : IntKind.i64.wrap (2 * (j : Int).tmod 4) = ((2 * (j % 4) : Nat) : Int) := by rw [Int.tmod_eq_emod_of_nonneg (by omega), wrap_i64 (by omega)]; omega
    have hx := hl _ (List.getElem_mem hjl)
    have hs := pkv_step hl hjl
    have hlt := pkv_lt (hl.take (j + 1)) (j / 4)
    have hlt0 := pkv_lt (hl.take j) (j / 4)
    have hsh : shlI .u8 ((l[j] : Nat) : Int) ((2 * (j % 4) : Nat) : Int) = ((l[j] * 2 ^ (2 * (j % 4)) : Nat) : Int) := by
      have hm : min (2 * (j % 4)) IntKind.u8.bits = 2 * (j % 4) := by simp [IntKind.bits]; omega
      unfold shlI
      rw [Int.toNat_natCast, hm]
      have : ((l[j] : Nat) : Int) * (2 : Int) ^ (2 * (j % 4)) = ((l[j] * 2 ^ (2 * (j % 4)) : Nat) : Int) := by norm_cast
      rw [this]
      exact bits_lt (k := .u8) (by simp only [IntKind.bits]; omega) rfl
    have hor : bOr .u8 ((pkv (l.take j) (j / 4) : Nat) : Int) ((l[j] * 2 ^ (2 * (j % 4)) : Nat) : Int) = ((pkv (l.take (j + 1)) (j / 4) : Nat) : Int) := by
      rw [bOr_nat rfl (by simp only [IntKind.bits]; omega) (by simp only [IntKind.bits]; omega), pkv_or hl hjl]
    generalize hq : j / 4 = q at *
    generalize hr : 2 * (j % 4) = r at *
    generalize hy : l[j] * 2 ^ r = y at *
    simp -implicitDefEqProofs [q_Pslotmap_Map_Put_L7, q_Pslotmap_Map_Put_3, q_Pslotmap_Map_Put_4, q_Pslotmap_Map_Put_5, q_Pslotmap_Map_Put_6, e2, e3, e18, e19, e20, hjl, hjl', wi, t1, t3, nbs, ds, tab_get, hjN, hsh, hor]
    refine lp_next (j + 1) ⟨by omega, ?_, by simp [e2], by simp [e3], by simp [e18], by simp [e19], by simp⟩ (by omega)
    rw [tab_set]
    congr 3
    refine tab_ext fun p _ => ?_
    by_cases e : p = q
    · subst e; simp
    · rw [if_neg e, pkv_other (by omega)]
  · have hje : j = l.length := by omega
    subst hje
    rw [List.take_length]
    have hpk : tab N (pkv l) = pk l := by rw [← hN]; rfl
    have hpl : (pk l).length = N := by rw [pk_len, hN]
    rw [hpk]
    simp -implicitDefEqProofs [q_Pslotmap_Map_Put_L7, q_Pslotmap_Map_Put_3, q_Pslotmap_Map_Put_7, e2, e3, e18, e19, e20, -List.reduceReplicate]
    refine (w_word_Whole (pk_bytes hl)).call (.cons (vw_irow set_eq' (by simp [hpl])) rfl .nil) rfl ?_
    obtain ⟨W, hW⟩ : ∃ W, whole (pk l) = W := ⟨_, rfl⟩
    have hWl : W.length = 256 := by rw [← hW]; exact whole_len _
    have hWb : Bytes W := by rw [← hW]; exact whole_bytes (pk_bytes hl)
    have hcrc : whole (W.take 252 ++ fourN (moreN 0 (W.take 252))) = sealN (pk l) := by rw [← hW]; exact sealN_whole (by omega)
    simp -implicitDefEqProofs [hW, -List.reduceReplicate]
    intro g6 n6 n6' h6
    simp -implicitDefEqProofs [q_Pslotmap_Map_Put_8, hWl, -List.reduceReplicate]
    refine (w_crc_Sealed (W.take 252) (fun x hx => hWb x (List.mem_of_mem_take hx)) (by simp; omega)).call (.cons (by have := vw_asl (A := ((D.set gb (Cont.irow 5 IntKind.u8 (ints (pk l)))).set g6 (Cont.var 54 [AV.iarr IntKind.u8 256 (ints W)]))) (n := 252) set_eq' (by simp [hWl]); simpa using this) rfl .nil) rfl fun g7 h7 => ?_
    simp -implicitDefEqProofs [hWl, -List.reduceReplicate]
    have hSl : (W.take 252 ++ fourN (moreN 0 (W.take 252))).length = 256 := by simp [hWl, fourN]
    have hSb : Bytes (W.take 252 ++ fourN (moreN 0 (W.take 252))) := fun x hx => by
      rcases List.mem_append.1 hx with hx | hx
      · exact hWb x (List.mem_of_mem_take hx)
      · exact bytes_four _ x hx
    refine (w_word_Whole hSb).call (.cons (vw_irow set_eq' (by simpa using hSl.symm)) rfl .nil) rfl ?_
    rw [hcrc]
    have n26 : g2 ≠ g6 := fresh_ne d2 h6
    have n27 : g2 ≠ g7 := by
      intro e; subst e
      simp [nb2', n26, d2] at h7
    simp -implicitDefEqProofs [e2, nb2', n26, n27, d2, outOf, -List.reduceReplicate]
    refine hk _ ?_
    have s6 := sub_set' (c := .var 54 [.iarr .u8 256 (ints W)]) (sub_set' (c := .irow 5 .u8 (ints (pk l))) hA hb) (sub_noneL hA h6)
    exact sub_set' (sub_set' s6 (sub_noneL s6 h7)) h2
theorem le_four (s : Nat) : le 4 s = fourN s := by
  simp [le, fourN]
  omega
theorem fill_step {S : List Nat} {n i : Nat} (hS : S.length = n) (h : i < n) : (S.take i ++ List.replicate (n - i) 0).set i (S[i]'(by omega)) = S.take (i + 1) ++ List.replicate (n - (i + 1)) 0 := by
  have hl : (S.take i).length = i := by simp; omega
  rw [List.set_append_right _ _ (by omega), hl, Nat.sub_self, show n - i = (n - (i + 1)) + 1 by omega, List.replicate_succ, List.set_cons_zero, List.take_succ_eq_append_getElem (by omega), List.append_assoc]; rfl
theorem w_ref08_Sealed {b : List Nat} (hb : Bytes b) (hlen : b.length ≤ 252) : Gives Try.prog F_ref08_Sealed [.isl .u8 (ints b)] (.iarr .u8 256 (ints (sealN b))) := by
  refine v_ref08_Sealed (by simp) ?_
  simp -implicitDefEqProofs [a_ref08_Sealed, q_ref08_Sealed_0, q_ref08_Sealed_1, q_ref08_Sealed_2, -List.reduceReplicate]
  intro g2
  refine (SlS.nil (e := 5) (k := .u8) (Sub_refl _)).appS (ys := ints b) (Sub_refl _) srcI_isl (by simp; omega) fun v C hv hag => ?_
  have hs := hv.scl
  rw [List.nil_append] at hv
  have c2 := hv.sub _ _ set_eq'
  simp -implicitDefEqProofs [-List.reduceReplicate]
  refine X_lp (fun (n : Nat) env E => n ≤ 252 - b.length ∧ env 2 = .ptr g2 0 ∧ SlS 5 .u8 (env 3) (ints (b ++ List.replicate n 0)) (H0.set g2 (.var 54 [.iarr .u8 256 (List.replicate 256 0)])) E) (fun n => 252 - b.length - n) 0
    ⟨by omega, by simp, by simpa using hv⟩ ?_
  clear v hv hag hs C c2
  rintro n env E ⟨hn, e2, hv⟩
  obtain ⟨v, e3⟩ : ∃ v, env 3 = v := ⟨_, rfl⟩
  rw [e3] at hv
  have hs := hv.scl
  by_cases hlt : n < 252 - b.length
  · have hlt' : (b.length : Int) + n < 252 := by omega
    simp -implicitDefEqProofs [q_ref08_Sealed_L5, q_ref08_Sealed_3, q_ref08_Sealed_4, e2, e3, hv.len, hlt', hs.size, hs.shp, hs.agg, hs.good, hs.comps, hs.st, -List.reduceReplicate]
    intro g9 h9
    refine hv.appS (ys := [0]) (sub_none h9) (srcI_row set_eq' rfl) (by simp; omega) fun v2 C2 hv2 hag2 => ?_
    have hs2 := hv2.scl
    simp -implicitDefEqProofs [-List.reduceReplicate]
    refine lp_next (n + 1) ⟨by omega, by simp [e2], ?_⟩ (by omega)
    rw [List.replicate_succ', ← List.append_assoc]
    simpa [ints, -List.reduceReplicate] using hv2
  · have hne : n = 252 - b.length := by omega
    have hlt' : ¬ (b.length : Int) + n < 252 := by omega
    obtain ⟨L, hL⟩ : ∃ L, b ++ List.replicate n 0 = L := ⟨_, rfl⟩
    have hLl : L.length = 252 := by rw [← hL]; simp; omega
    have hLb : Bytes L := fun x hx => by
      rw [← hL] at hx
      rcases List.mem_append.1 hx with hx | hx
      · exact hb x hx
      · rw [List.eq_of_mem_replicate hx]; decide
    have hsl : sealN b = L ++ fourN (moreN 0 L) := by
      have : b.take 252 ++ List.replicate (252 - b.length) 0 = L := by rw [List.take_of_length_le hlen, ← hne]; exact hL
      unfold sealN; rw [this]
    rw [hL] at hv
    have hm := moreN_lt (s := 0) (by decide) hLb
    have wu : IntKind.u64.wrap ((moreN 0 L : Nat) : Int) = ((moreN 0 L : Nat) : Int) := wrap_u64 (by omega)
    simp -implicitDefEqProofs [q_ref08_Sealed_L5, q_ref08_Sealed_3, q_ref08_Sealed_5, e2, e3, hv.len, hLl, hs.size, hs.shp, hs.agg, hs.good, hs.comps, hs.st, -List.reduceReplicate]
    refine (w_ref02_Of L hLb (by omega)).call (.cons hv.vw hs.agg .nil) rfl ?_
    simp -implicitDefEqProofs [wu, -List.reduceReplicate]
    refine (w_ref01_Put 4 (moreN 0 L) (by omega) (by decide)).call (.cons (.refl _) rfl (.cons (.refl _) rfl .nil)) fun v4 C4 h4 => ?_
    have h4s := h4.scl
    simp -implicitDefEqProofs [h4s.agg, -List.reduceReplicate]
    obtain ⟨gq, g1, g2', g3⟩ := h4.pos (by simp)
    subst g1
    refine hv.appS (ys := ints (fourN (moreN 0 L))) h4.sub (srcI_row (by rw [← le_four]; exact g3) (by simp [fourN])) (by simp [hLl, fourN]) fun v5 C5 hv5 hag5 => ?_
    rw [ints_append, ← hsl] at hv5
    obtain ⟨S, hS⟩ : ∃ S, sealN b = S := ⟨_, rfl⟩
    have hSl : S.length = 256 := by rw [← hS]; exact sealN_len b
    rw [hS] at hv5 ⊢
    obtain ⟨x, r1, r2, r3⟩ := hv5.pos (by simp [hSl])
    subst r1
    have c2 := hv5.sub _ _ set_eq'
    simp -implicitDefEqProofs [hSl, q_ref08_Sealed_6, q_ref08_Sealed_7, -List.reduceReplicate]
    intro g4 h4'
    have nx4 := fresh_ne r3 h4'
    have n24 := fresh_ne c2 h4'
    refine X_lp (fun (i : Nat) env E => i ≤ 256 ∧ env 2 = .ptr g2 0 ∧ env 3 = .own x 0 256 ∧ env 4 = .ptr g4 0 ∧ env 5 = .int .i64 i ∧ E = C5.set g4 (.var 54 [.iarr .u8 256 (ints (S.take i ++ List.replicate (256 - i) 0))])) (fun i => 256 - i) 0
      ⟨by omega, by simp [e2], by simp, by simp, by simp, by simp [ints, -List.reduceReplicate]⟩ ?_
    rintro i env E ⟨hi, e2, e3, e4, e5, rfl⟩
    by_cases hil : i < 256
    · have hil' : (i : Int) < 256 := by omega
      have wi : IntKind.i64.wrap ((i : Int) + 1) = (i : Int) + 1 := wrap_i64 (by omega)
      simp -implicitDefEqProofs [q_ref08_Sealed_L11, q_ref08_Sealed_8, q_ref08_Sealed_9, q_ref08_Sealed_10, e2, e3, e4, e5, hil, hil', wi, nx4, r3, hSl, -List.reduceReplicate]
      refine ⟨by omega, lp_next (i + 1) ⟨by omega, by simp [e2], by simp [e3], by simp [e4], by simp, ?_⟩ (by omega)⟩
      rw [fill_step hSl hil]
    · have hie : i = 256 := by omega
      subst hie
      simp -implicitDefEqProofs [q_ref08_Sealed_L11, q_ref08_Sealed_8, q_ref08_Sealed_11, e2, e3, e4, e5, n24, c2, hSl, -List.reduceReplicate]
      rw [List.take_of_length_le (by omega)]
end
end Go.Proofs.Ytfdckjliinpjiaa

/- The walk of a slot map's Read. -/
namespace Go.Proofs.Ytfdckjliinpjiaa
open Go AVL
attribute [-simp] AV.isAgg aappI aapp alen shp good comps
set_option linter.unusedVariables false
set_option linter.unusedSimpArgs false
set_option maxRecDepth 20000

section
variable {A B C : Heap} {K Kp : AV → Heap → Prop} {P : Program}
def upk (x : List Nat) (i : Nat) : Nat := x[i / 4]?.getD 0 / 2 ^ (2 * (i % 4)) % 4
def upkL (x : List Nat) (n : Nat) : List Nat := tab n (upk x)
def rdOK (n : Nat) (x : List Nat) : Prop := holdsN x = true ∧ Slots (upkL x n) ∧ sealN (pk (upkL x n)) = x
theorem upkL_len (x : List Nat) (n : Nat) : (upkL x n).length = n := by simp [upkL, tab]
theorem fill_tab {n i : Nat} (F : Nat → Nat) (h : i < n) : (tab i F ++ List.replicate (n - i) 0).set i (F i) = tab (i + 1) F ++ List.replicate (n - (i + 1)) 0 := by
  have hl : (tab i F).length = i := by simp [tab]
  rw [List.set_append_right _ _ (by omega), hl, Nat.sub_self, show n - i = (n - (i + 1)) + 1 by omega, List.replicate_succ, List.set_cons_zero]
  simp [tab, List.range_succ]
theorem w_slotmap_Read {n : Int} {x : List Nat} (hx : Bytes x) (hxl : x.length = 256) (h1 : n < 1 ∨ 200 < n → ∀ B, A.Sub B → K (.tuple [.nilP, .int .i64 2]) B)
    (h2 : 1 ≤ n → n ≤ 200 → ¬ rdOK n.toNat x → ∀ B, A.Sub B → K (.tuple [.nilP, .int .i64 5]) B)
    (h3 : 1 ≤ n → n ≤ 200 → rdOK n.toNat x → ∀ g gs B, MapAt A g gs (upkL x n.toNat) B → K (.tuple [.ptr g 0, .int .i64 0]) B) :
    SimX Try.prog F_slotmap_Read [.int .i64 n, .iarr .u8 256 (ints x)] A (outK K Kp) := by
  refine j_slotmap_Read (by simp) ?_
  simp -implicitDefEqProofs [a_slotmap_Read, q_slotmap_Read_0, q_slotmap_Read_1, hxl]
  intro g3 h3'
  have s3 : A.Sub (A.set g3 (.var 54 [.iarr .u8 256 (ints x)])) := sub_none h3'
  refine w_slotmap_New (fun hn => ?_) fun n1 n200 g gs B hm => ?_
  · simp -implicitDefEqProofs [q_slotmap_Read_2, q_slotmap_Read_3, outOf]
    exact h1 hn _ s3
  obtain ⟨N, rfl⟩ : ∃ N : Nat, n = N := ⟨n.toNat, by omega⟩
  simp only [Int.toNat_natCast] at h2 h3 hm
  have c3 := hm.sub _ _ set_eq'
  have hAB := sub_tr s3 hm.sub
  simp -implicitDefEqProofs [q_slotmap_Read_2, q_slotmap_Read_4, c3, hxl]
  refine (w_crc_Holds x hx (by omega)).call (.cons (by have := vw_asl (n := 256) c3 (by simp [hxl]); rwa [List.take_of_length_le (by simp [hxl])] at this) rfl .nil) rfl ?_
  by_cases hh : holdsN x = true
  · simp -implicitDefEqProofs [hh, q_slotmap_Read_6, hm.m.cg]
    have n3g : g ≠ g3 := by rintro rfl; have := hm.ng; simp at this
    have n3s : gs ≠ g3 := by rintro rfl; have := hm.ns; simp at this
    have ngs := hm.ne
    have hrl : (List.replicate N (0 : Nat)).length = N := by simp
    refine X_lp (fun (j : Nat) env E => j ≤ N ∧ (∀ i, i < j → upk x i ≤ 2) ∧ E = B.set gs (.irow T_uint8 .u8 (ints (tab j (upk x) ++ List.replicate (N - j) 0))) ∧ env 3 = .ptr g3 0 ∧ env 6 = .ptr g 0 ∧ env 24 = .int .i64 N ∧ env 25 = .int .i64 j) (fun j => N - j) 0
      ⟨by omega, by simp, ?_, by simp, by simp, by simp, by simp⟩ ?_
    · have := set_same hm.m.cs
      simpa [tab] using this.symm
    rintro j env E ⟨hj, hle, rfl, e3, e6, e24, e25⟩
    have hg := hm.m.cg
    rw [hrl] at hg
    by_cases hjl : j < N
    · have hjl' : (j : Int) < N := by omega
      have wi : IntKind.i64.wrap ((j : Int) + 1) = (j : Int) + 1 := wrap_i64 (by omega)
      have hjx : j / 4 < 256 := by omega
      have hjx' : j / 4 < x.length := by omega
      have t1 : IntKind.i64.wrap ((j : Int) / 4) = ((j / 4 : Nat) : Int) := by rw [wrap_i64 (by omega)]; omega
      have t3 : IntKind.i64.wrap (2 * (j : Int).tmod 4) = ((2 * (j % 4) : Nat) : Int) := by rw [Int.tmod_eq_emod_of_nonneg (by omega), wrap_i64 (by omega)]; omega
      have hb := hx _ (List.getElem_mem hjx')
      have hshr : shrI .u8 ((x[j / 4] : Nat) : Int) ((2 * (j % 4) : Nat) : Int) = ((x[j / 4] / 2 ^ (2 * (j % 4)) : Nat) : Int) := by
        rw [shrI_nat, show min (2 * (j % 4)) IntKind.u8.bits = 2 * (j % 4) by simp [IntKind.bits]; omega]
      have hand : bAnd .u8 ((x[j / 4] / 2 ^ (2 * (j % 4)) : Nat) : Int) 3 = ((upk x j : Nat) : Int) := by
        have := bAnd_nat (k := .u8) rfl (a := x[j / 4] / 2 ^ (2 * (j % 4))) (b := 3) (by have := Nat.div_le_self x[j / 4] (2 ^ (2 * (j % 4))); simp only [IntKind.bits]; omega) (by decide)
        have h3 := Nat.and_two_pow_sub_one_eq_mod (x[j / 4] / 2 ^ (2 * (j % 4))) 2
        simp only [show 2 ^ 2 - 1 = 3 from rfl, show 2 ^ 2 = 4 from rfl] at h3
        rw [h3] at this
        unfold upk
        rw [List.getElem?_eq_getElem hjx']
        exact this
      generalize hu : upk x j = u at *
      generalize hr : 2 * (j % 4) = r at *
      generalize hy : x[j / 4] = y at *
      generalize hz : y / 2 ^ r = z at *
      generalize hq : j / 4 = q at *
      have hlen : (tab j (upk x) ++ List.replicate (N - j) 0).length = N := by simp [tab]; omega
      simp -implicitDefEqProofs [q_slotmap_Read_L13, q_slotmap_Read_7, q_slotmap_Read_8, q_slotmap_Read_9, q_slotmap_Read_10, e3, e6, e24, e25, hjl, hjl', wi, t1, t3, ngs, Ne.symm ngs, n3s, Ne.symm n3s, hg, c3, hshr, hand, hjx, hy, hxl, hlen]
      have hlj : (tab j (upk x)).length = j := by simp [tab]
      have hget : (tab j (upk x) ++ (List.replicate (N - j) 0).set 0 u)[j]?.getD 0 = u := by
        rw [List.getElem?_append_right (by omega), hlj, Nat.sub_self, show N - j = (N - j - 1) + 1 by omega, List.replicate_succ]; rfl
      rw [hget]
      refine ⟨by omega, by omega, fun h => ?_, fun h => ?_⟩
      · simp -implicitDefEqProofs [q_slotmap_Read_11, outOf]
        refine h2 (by omega) (by omega) (fun hok => ?_) _ (sub_set' hAB (sub_noneL s3 hm.ns))
        have := hok.2.1 (upk x j) (by simp only [upkL, tab]; exact List.mem_map_of_mem (List.mem_range.2 hjl))
        omega
      · simp -implicitDefEqProofs [q_slotmap_Read_12, e25, wi]
        refine lp_next (j + 1) ⟨by omega, fun i hi => ?_, ?_, by simp [e3], by simp [e6], by simp [e24], by simp⟩ (by omega)
        · by_cases e : i = j
          · subst e; omega
          · exact hle i (by omega)
        · have hlj : (tab j (upk x)).length = j := by simp [tab]
          rw [← fill_tab _ hjl, hu, List.set_append_right _ _ (by omega), hlj, Nat.sub_self]
    · have hje : j = N := by omega
      subst hje
      have hsl : Slots (upkL x j) := fun y hy => by
        simp only [upkL, tab, List.mem_map, List.mem_range] at hy
        obtain ⟨i, hi, rfl⟩ := hy
        exact hle i hi
      have htl : tab j (upk x) = upkL x j := rfl
      have hmm : MapIn g gs (upkL x j) (B.set gs (.irow T_uint8 .u8 (ints (upkL x j)))) := ⟨by simp [ngs, hg, upkL_len], by simp⟩
      simp -implicitDefEqProofs [q_slotmap_Read_L13, q_slotmap_Read_7, q_slotmap_Read_13, e3, e6, e24, e25, htl, n3s, Ne.symm n3s, c3]
      refine w_Map_Put hmm hsl (by simp [upkL_len]; omega) fun B2 hB2 => ?_
      have hAB2 : A.Sub B2 := sub_tr (sub_set' hAB (sub_noneL s3 hm.ns)) hB2
      have hok : sealN (pk (upkL x j)) = x ↔ rdOK j x := ⟨fun h => ⟨hh, hsl, h⟩, fun h => h.2.2⟩
      simp -implicitDefEqProofs [e3, n3s, Ne.symm n3s, c3, eqI_ints (sealN_len _) hxl]
      refine ⟨.inl hB2, ?_⟩
      by_cases hk : sealN (pk (upkL x j)) = x
      · simp -implicitDefEqProofs [hk, q_slotmap_Read_15, e6, outOf]
        refine h3 (by omega) (by omega) (hok.1 hk) g gs B2 ⟨hAB2, sub_noneL s3 hm.ng, sub_noneL s3 hm.ns, ngs, hmm.mono hB2⟩
      · have hb : (sealN (pk (upkL x j)) == x) = false := beq_eq_false_iff_ne.2 hk
        simp -implicitDefEqProofs [hb, q_slotmap_Read_14, outOf]
        exact h2 (by omega) (by omega) (fun h => hk (hok.2 h)) _ hAB2
  · simp -implicitDefEqProofs [hh, q_slotmap_Read_5, outOf]
    exact h2 (by omega) (by omega) (fun h => hh h.1) _ hAB
theorem upk_seal {l : List Nat} (hl : Slots l) (hlen : l.length ≤ 1000) : upkL (sealN (pk l)) l.length = l := by
  refine List.ext_getElem (by simp [upkL_len]) fun i h1 h2 => ?_
  have hq : i / 4 < (pk l).length := by rw [pk_len]; omega
  have h252 : (pk l).length ≤ 252 := by rw [pk_len]; omega
  have e1 : (sealN (pk l))[i / 4]?.getD 0 = pkv l (i / 4) := by
    unfold sealN
    rw [List.append_assoc, List.getElem?_append_left (by simp; omega), List.take_of_length_le h252, List.getElem?_eq_getElem hq]
    simp [pk, tab]
  have e0 : (upkL (sealN (pk l)) l.length)[i] = upk (sealN (pk l)) i := by simp [upkL, tab]
  rw [e0]
  unfold upk
  rw [e1]
  have g0 := hl.getD (4 * (i / 4))
  have g1 := hl.getD (4 * (i / 4) + 1)
  have g2 := hl.getD (4 * (i / 4) + 2)
  have g3 := hl.getD (4 * (i / 4) + 3)
  have hi : l[i] = l[i]?.getD 0 := by rw [List.getElem?_eq_getElem h2]; rfl
  rw [hi]
  unfold pkv
  have p0 : (2 : Nat) ^ (2 * 0) = 1 := rfl
  have p1 : (2 : Nat) ^ (2 * 1) = 4 := rfl
  have p2 : (2 : Nat) ^ (2 * 2) = 16 := rfl
  have p3 : (2 : Nat) ^ (2 * 3) = 64 := rfl
  rcases (by omega : i % 4 = 0 ∨ i % 4 = 1 ∨ i % 4 = 2 ∨ i % 4 = 3) with e | e | e | e
  · rw [show l[i]?.getD 0 = l[4 * (i / 4)]?.getD 0 by rw [show 4 * (i / 4) = i by omega], e, p0]
    generalize l[4 * (i / 4)]?.getD 0 = a0, l[4 * (i / 4) + 1]?.getD 0 = a1, l[4 * (i / 4) + 2]?.getD 0 = a2, l[4 * (i / 4) + 3]?.getD 0 = a3 at *
    omega
  · rw [show l[i]?.getD 0 = l[4 * (i / 4) + 1]?.getD 0 by rw [show 4 * (i / 4) + 1 = i by omega], e, p1]
    generalize l[4 * (i / 4)]?.getD 0 = a0, l[4 * (i / 4) + 1]?.getD 0 = a1, l[4 * (i / 4) + 2]?.getD 0 = a2, l[4 * (i / 4) + 3]?.getD 0 = a3 at *
    omega
  · rw [show l[i]?.getD 0 = l[4 * (i / 4) + 2]?.getD 0 by rw [show 4 * (i / 4) + 2 = i by omega], e, p2]
    generalize l[4 * (i / 4)]?.getD 0 = a0, l[4 * (i / 4) + 1]?.getD 0 = a1, l[4 * (i / 4) + 2]?.getD 0 = a2, l[4 * (i / 4) + 3]?.getD 0 = a3 at *
    omega
  · rw [show l[i]?.getD 0 = l[4 * (i / 4) + 3]?.getD 0 by rw [show 4 * (i / 4) + 3 = i by omega], e, p3]
    generalize l[4 * (i / 4)]?.getD 0 = a0, l[4 * (i / 4) + 1]?.getD 0 = a1, l[4 * (i / 4) + 2]?.getD 0 = a2, l[4 * (i / 4) + 3]?.getD 0 = a3 at *
    omega
theorem rdOK_seal {l : List Nat} (hl : Slots l) (hlen : l.length ≤ 1000) : rdOK l.length (sealN (pk l)) := ⟨sealN_holds, by rw [upk_seal hl hlen]; exact hl, by rw [upk_seal hl hlen]⟩
end
end Go.Proofs.Ytfdckjliinpjiaa

/- The walks of the reference's slots and of the law's comparison of numbers. -/
namespace Go.Proofs.Ytfdckjliinpjiaa
open Go AVL
attribute [-simp] AV.isAgg aappI aapp alen shp good comps
set_option linter.unusedVariables false
set_option linter.unusedSimpArgs false
set_option maxRecDepth 20000

section
variable {A B C : Heap} {K Kp : AV → Heap → Prop} {P : Program}
theorem w_law10_ints {a b : List Nat} (ha : a.length ≤ 100000) : Gives Try.prog F_law10_ints [.isl .i64 (ints a), .isl .i64 (ints b)] (.bool (decide (a = b))) := by
  refine v_law10_ints (by simp) ?_
  by_cases hl : a.length = b.length
  · have hl' : (a.length : Int) = b.length := by omega
    simp -implicitDefEqProofs [a_law10_ints, q_law10_ints_0, q_law10_ints_1, q_law10_ints_3, hl, hl']
    refine X_lp (fun (j : Nat) env E => j ≤ b.length ∧ a.take j = b.take j ∧ E = H0 ∧ env 0 = .isl .i64 (ints a) ∧ env 1 = .isl .i64 (ints b) ∧ env 5 = .int .i64 j) (fun j => b.length - j) 0
      ⟨by omega, by simp, rfl, by simp, by simp, by simp⟩ ?_
    rintro j env E ⟨hj, he, rfl, e0, e1, e5⟩
    by_cases hjl : j < b.length
    · have hjl' : (j : Int) < b.length := by omega
      have hja : j < a.length := by omega
      have wi : IntKind.i64.wrap ((j : Int) + 1) = (j : Int) + 1 := wrap_i64 (by omega)
      by_cases hx : a[j] = b[j]
      · simp -implicitDefEqProofs [q_law10_ints_L8, q_law10_ints_4, q_law10_ints_5, q_law10_ints_7, e0, e1, e5, hl, hjl, hjl', hja, wi, hx]
        refine lp_next (j + 1) ⟨by omega, ?_, rfl, by simp [e0], by simp [e1], by simp⟩ (by omega)
        rw [List.take_succ_eq_append_getElem hja, List.take_succ_eq_append_getElem hjl, he, hx]
      · have hne : ¬ a = b := by rintro rfl; exact hx rfl
        have hx' : ¬ (a[j] : Int) = b[j] := by omega
        simp -implicitDefEqProofs [q_law10_ints_L8, q_law10_ints_4, q_law10_ints_5, q_law10_ints_6, e0, e1, e5, hl, hjl, hjl', hja, wi, hx, hx', hne, outOf]
    · have : j = b.length := by omega
      subst this
      have hab : a = b := by rw [List.take_length, ← hl, List.take_length] at he; exact he
      simp -implicitDefEqProofs [q_law10_ints_L8, q_law10_ints_4, q_law10_ints_8, e0, e1, e5, hl, hab, outOf]
  · have hl' : ¬ (a.length : Int) = b.length := by omega
    have hne : ¬ a = b := by rintro rfl; exact hl rfl
    simp -implicitDefEqProofs [a_law10_ints, q_law10_ints_0, q_law10_ints_1, q_law10_ints_2, hl, hl', hne, outOf]
theorem w_ref10_Of {l : List Nat} {what : Int} (hlen : l.length ≤ 100000) : MakesS Try.prog F_ref10_Of [.isl .i64 (ints l), .int .i64 what] 3 .i64 (ints (idx l what l.length)) := by
  refine i_ref10_Of (by simp) fun R hR => ?_
  simp -implicitDefEqProofs [a_ref10_Of, q_ref10_Of_0, q_ref10_Of_1, q_ref10_Of_2]
  refine X_lp (fun (j : Nat) env E => j ≤ l.length ∧ env 0 = .isl .i64 (ints l) ∧ env 1 = .int .i64 what ∧ SlS 3 .i64 (env 5) (ints (idx l what j)) H0 E ∧ env 6 = .int .i64 j) (fun j => l.length - j) 0
    ⟨by omega, by simp, by simp, by simpa [idx] using SlS.nil (Sub_refl _), by simp⟩ ?_
  rintro j env E ⟨hj, e0, e1, hv, e6⟩
  obtain ⟨v, e5⟩ : ∃ v, env 5 = v := ⟨_, rfl⟩
  rw [e5] at hv
  have hs := hv.scl
  by_cases hjl : j < l.length
  · have hjl' : (j : Int) < l.length := by omega
    have wi : IntKind.i64.wrap ((j : Int) + 1) = (j : Int) + 1 := wrap_i64 (by omega)
    by_cases hx : (l[j] : Int) = what
    · have hil := idx_len l what j
      simp -implicitDefEqProofs [q_ref10_Of_L7, q_ref10_Of_3, q_ref10_Of_4, q_ref10_Of_5, q_ref10_Of_6, e0, e1, e5, e6, hjl, hjl', wi, hx, hs.size, hs.shp, hs.agg, hs.good, hs.comps, hs.st]
      intro g9 h9
      refine hv.appS (ys := [(j : Int)]) (sub_none h9) (srcI_row set_eq' rfl) (by simp; omega) fun v2 C2 hv2 hag2 => ?_
      simp -implicitDefEqProofs [e6, wi]
      refine lp_next (j + 1) ⟨by omega, by simp [e0], by simp [e1], ?_, by simp⟩ (by omega)
      rw [idx_yes hjl hx]; simpa [ints] using hv2
    · simp -implicitDefEqProofs [q_ref10_Of_L7, q_ref10_Of_3, q_ref10_Of_4, q_ref10_Of_5, q_ref10_Of_6, e0, e1, e5, e6, hjl, hjl', wi, hx, hs.size, hs.shp, hs.agg, hs.good, hs.comps, hs.st]
      refine lp_next (j + 1) ⟨by omega, by simp [e0], by simp [e1], ?_, by simp⟩ (by omega)
      rw [idx_no hjl hx]; simpa [e5] using hv
  · have hje : j = l.length := by omega
    subst hje
    simp -implicitDefEqProofs [q_ref10_Of_L7, q_ref10_Of_3, q_ref10_Of_7, e0, e1, e5, e6, hs.size, hs.shp, hs.agg, hs.good, hs.comps, hs.st]
    refine hR _ _ _ ?_
    simp only [a_ref10_Of, fpost, aress, upd_app, outOf]
    simpa [hs.agg, outOf, nrm] using hv.fin
end
end Go.Proofs.Ytfdckjliinpjiaa

/- The walks of the reference's Set, Take and Put. -/
namespace Go.Proofs.Ytfdckjliinpjiaa
open Go AVL
attribute [-simp] AV.isAgg aappI aapp alen shp good comps
set_option linter.unusedVariables false
set_option linter.unusedSimpArgs false
set_option maxRecDepth 20000

section
variable {A B C : Heap} {K Kp : AV → Heap → Prop} {P : Program}
theorem w_ref10_Set {gr n : Nat} {l : List Nat} {i what : Int} (hr : B gr = some (.irow 3 .i64 (ints l))) (hn : n = l.length) (hlen : l.length ≤ 100000)
    (hk : ∀ g' C, B.Sub C → C g' = some (.irow 3 .i64 (ints (setL l i what))) → K (.tuple [.own g' 0 n, .int .i64 (setE l i what)]) C) :
    SimX Try.prog F_ref10_Set [.own gr 0 n, .int .i64 i, .int .i64 what] B (outK K Kp) := by
  subst hn
  refine j_ref10_Set (by simp) ?_
  by_cases h0 : i < 0 ∨ (l.length : Int) ≤ i
  · have he : setE l i what = 2 := by unfold setE; rw [if_pos h0]
    have hs : setL l i what = l := by unfold setL; rw [he]; rfl
    rw [he, hs] at hk
    by_cases h1 : i < 0
    · simp -implicitDefEqProofs [a_ref10_Set, q_ref10_Set_0, q_ref10_Set_1, q_ref10_Set_2, h1, outOf]
      exact hk gr B (Sub_refl _) hr
    · have h2 : (l.length : Int) ≤ i := by omega
      simp -implicitDefEqProofs [a_ref10_Set, q_ref10_Set_0, q_ref10_Set_1, q_ref10_Set_2, h1, h2, outOf]
      exact hk gr B (Sub_refl _) hr
  have hi0 : ¬ i < 0 := by omega
  have hi1 : ¬ (l.length : Int) ≤ i := by omega
  by_cases h1 : what < 0 ∨ 2 < what
  · have he : setE l i what = 1 := by unfold setE; rw [if_neg h0, if_pos h1]
    have hs : setL l i what = l := by unfold setL; rw [he]; rfl
    rw [he, hs] at hk
    by_cases h2 : what < 0
    · simp -implicitDefEqProofs [a_ref10_Set, q_ref10_Set_0, q_ref10_Set_1, q_ref10_Set_3, q_ref10_Set_4, hi0, hi1, h2, outOf]
      exact hk gr B (Sub_refl _) hr
    · have h3 : 2 < what := by omega
      simp -implicitDefEqProofs [a_ref10_Set, q_ref10_Set_0, q_ref10_Set_1, q_ref10_Set_3, q_ref10_Set_4, hi0, hi1, h2, h3, outOf]
      exact hk gr B (Sub_refl _) hr
  have he : setE l i what = 0 := by unfold setE; rw [if_neg h0, if_neg h1]
  obtain ⟨j, rfl⟩ : ∃ j : Nat, i = j := ⟨i.toNat, by omega⟩
  obtain ⟨w, rfl⟩ : ∃ w : Nat, what = w := ⟨what.toNat, by omega⟩
  have hs : setL l j w = l.set j w := by unfold setL; rw [if_pos he]; simp
  have hj : j < l.length := by omega
  have hj' : (j : Int) < l.length := by omega
  have h2 : ¬ ((w : Nat) : Int) < 0 := by omega
  have h3 : ¬ (2 : Int) < (w : Int) := by omega
  have h3n : ¬ 2 < w := by omega
  rw [he, hs] at hk
  simp -implicitDefEqProofs [a_ref10_Set, q_ref10_Set_0, q_ref10_Set_1, q_ref10_Set_3, q_ref10_Set_5, q_ref10_Set_6, hi0, hi1, h2, h3, h3n]
  refine (SlS.nil (e := 3) (k := .i64) (Sub_refl _)).appS (ys := ints l) (Sub_refl _) (srcI_row hr (by simp)) (by simp; omega) fun v C hv hag => ?_
  rw [List.nil_append] at hv
  obtain ⟨x, r1, r2, r3⟩ := hv.pos (by simp; omega)
  subst r1
  simp -implicitDefEqProofs [q_ref10_Set_7, q_ref10_Set_8, r3, hj, hj', outOf]
  exact hk x _ (sub_set' hv.sub r2) (by simp)
theorem idx_lt {l : List Nat} {what : Int} {k i : Nat} (h : i ∈ idx l what k) : i < k := by
  simp [idx] at h; exact h.1
/-- Nil, or the beginning of a row. -/
def PreS (v : AV) (T : List Nat) (C : Heap) : Prop := (v = .nilS ∧ T = []) ∨ ∃ gv F n, v = .own gv 0 n ∧ C gv = some (.irow 3 .i64 (ints F)) ∧ n ≤ F.length ∧ T = F.take n
theorem PreS.vw {v : AV} {T : List Nat} (h : PreS v T C) : Vw C v (.isl .i64 (ints T)) := by
  rcases h with ⟨rfl, rfl⟩ | ⟨gv, F, n, rfl, h1, h2, rfl⟩
  · exact Vw.nil .i64
  · have := Vw.own (A := C) (i := 0) (n := n) h1 (by simp; omega)
    simpa using this
theorem PreS.scl {v : AV} {T : List Nat} (h : PreS v T C) : Scl v := by
  rcases h with ⟨rfl, rfl⟩ | ⟨gv, F, n, rfl, h1, h2, rfl⟩ <;> exact ⟨rfl, rfl, rfl, rfl, rfl, rfl, rfl⟩
theorem PreS.keep {v : AV} {T : List Nat} (h : PreS v T B) {x : Nat} {k : IntKind} {l : List Int} (hx : B x = some (.irow T_uint8 k l)) (hs : ∀ y c, y ≠ x → B y = some c → C y = some c) : PreS v T C := by
  rcases h with ⟨rfl, rfl⟩ | ⟨gv, F, n, rfl, h1, h2, rfl⟩
  · exact .inl ⟨rfl, rfl⟩
  · refine .inr ⟨gv, F, n, rfl, hs _ _ ?_ h1, h2, rfl⟩
    rintro rfl; rw [hx] at h1; cases h1
theorem w_ref10_Take {gr n : Nat} {l : List Nat} {m : Int} (hr : B gr = some (.irow 3 .i64 (ints l))) (hn : n = l.length) (hlen : l.length ≤ 100000)
    (k1 : m < 0 → K (.tuple [.own gr 0 n, .nilS, .int .i64 1]) B)
    (k2 : 0 ≤ m → (idx l 0 l.length).length < m → ∀ C, B.Sub C → K (.tuple [.own gr 0 n, .nilS, .int .i64 6]) C)
    (k3 : 0 ≤ m → m ≤ (idx l 0 l.length).length → ∀ g' v C, B.Sub C → C g' = some (.irow 3 .i64 (ints (tk l ((idx l 0 l.length).take m.toNat)))) → PreS v ((idx l 0 l.length).take m.toNat) C → K (.tuple [.own g' 0 n, v, .int .i64 0]) C) :
    SimX Try.prog F_ref10_Take [.own gr 0 n, .int .i64 m] B (outK K Kp) := by
  subst hn
  refine j_ref10_Take (by simp) ?_
  by_cases h0 : m < 0
  · simp -implicitDefEqProofs [a_ref10_Take, q_ref10_Take_0, q_ref10_Take_1, q_ref10_Take_2, h0, outOf]
    exact k1 h0
  simp -implicitDefEqProofs [a_ref10_Take, q_ref10_Take_0, q_ref10_Take_1, q_ref10_Take_3, h0]
  refine (w_ref10_Of (l := l) (what := 0) hlen).call (.cons (vw_irow hr (by simp)) rfl (.cons (.refl _) rfl .nil)) fun v C hv => ?_
  have hs := hv.scl
  by_cases h1 : ((idx l 0 l.length).length : Int) < m
  · simp -implicitDefEqProofs [q_ref10_Take_4, q_ref10_Take_5, h1, hv.len, hs.size, hs.shp, hs.agg, hs.good, hs.comps, hs.st, outOf]
    exact k2 (by omega) h1 C hv.sub
  obtain ⟨N, rfl⟩ : ∃ N : Nat, m = N := ⟨m.toNat, by omega⟩
  have k3' := k3 (by omega) (by omega)
  simp only [Int.toNat_natCast] at k3'
  have hil := idx_len l 0 l.length
  obtain ⟨F, hF⟩ : ∃ F, idx l 0 l.length = F := ⟨_, rfl⟩
  have hFl : ∀ i ∈ F, i < l.length := fun i hi => by rw [← hF] at hi; exact idx_lt hi
  rw [hF] at hv h1 k3' hil
  have hN : N ≤ F.length := by omega
  simp -implicitDefEqProofs [q_ref10_Take_4, q_ref10_Take_6, q_ref10_Take_7, h1, hF, hv.len, hs.size, hs.shp, hs.agg, hs.good, hs.comps, hs.st]
  refine X_lp (fun (j : Nat) env E => j ≤ N ∧ C.Sub E ∧ (∃ x, env 8 = .own x 0 l.length ∧ E x = some (.irow 3 .i64 (ints (tk l (F.take j))))) ∧ env 0 = .own gr 0 l.length ∧ env 1 = .int .i64 N ∧ env 7 = v ∧ env 9 = .int .i64 j) (fun j => N - j) 0
    ⟨by omega, Sub_refl _, ⟨gr, by simp, by simpa [tk] using hv.sub _ _ hr⟩, by simp, by simp, by simp, by simp⟩ ?_
  rintro j env E ⟨hj, hCE, ⟨x, e8, hx⟩, e0, e1, e7, e9⟩
  by_cases hjl : j < N
  · have hjl' : (j : Int) < N := by omega
    have hjF : j < F.length := by omega
    have wi : IntKind.i64.wrap ((j : Int) + 1) = (j : Int) + 1 := wrap_i64 (by omega)
    obtain ⟨gv, r1, r2, r3⟩ := hv.pos (by simp; omega)
    have r3' := hCE _ _ r3
    have hFj := hFl _ (List.getElem_mem hjF)
    have hjF' : (j : Int) < F.length := by omega
    simp -implicitDefEqProofs [q_ref10_Take_L11, q_ref10_Take_8, q_ref10_Take_9, e0, e1, e7, e8, e9, hjl, hjl', r1, r3', hjF, hjF']
    refine w_ref10_Set hx (by simp [tk_len]) (by simp [tk_len]; omega) fun g' C2 hs2 hg' => ?_
    have he : setE (tk l (F.take j)) (F[j] : Int) 1 = 0 := by unfold setE; rw [if_neg (by rw [tk_len]; omega), if_neg (by omega)]
    have hsl : setL (tk l (F.take j)) (F[j] : Int) 1 = tk l (F.take (j + 1)) := by
      unfold setL; rw [if_pos he, List.take_succ_eq_append_getElem hjF, tk_snoc]; simp
    rw [hsl] at hg'
    simp -implicitDefEqProofs [q_ref10_Take_10, e9, wi]
    exact lp_next (j + 1) ⟨by omega, sub_tr hCE hs2, ⟨g', by simp, hg'⟩, by simp [e0], by simp [e1], by simp [e7, r1], by simp⟩ (by omega)
  · have hje : j = N := by omega
    subst hje
    have hs' : Scl v := hs
    rcases hv.own with ⟨rfl, hnil⟩ | ⟨gv, rfl, r2, r3⟩
    · have hF0 : F = [] := by simpa [ints] using hnil
      have hj0 : j = 0 := by rw [hF0] at hN; simpa using hN
      subst hj0
      subst hF0
      simp -implicitDefEqProofs [q_ref10_Take_L11, q_ref10_Take_8, q_ref10_Take_11, e0, e1, e7, e8, e9, outOf]
      exact k3' x .nilS E (sub_tr hv.sub hCE) (by simpa using hx) (.inl ⟨rfl, by simp⟩)
    · have r3' := hCE _ _ r3
      simp -implicitDefEqProofs [q_ref10_Take_L11, q_ref10_Take_8, q_ref10_Take_11, e0, e1, e7, e8, e9, r3', hN, outOf]
      refine k3' x _ E (sub_tr hv.sub hCE) hx (.inr ⟨gv, F, j, by simp, r3', hN, rfl⟩)
end
end Go.Proofs.Ytfdckjliinpjiaa

/- The walk of the reference's Put. -/
namespace Go.Proofs.Ytfdckjliinpjiaa
open Go AVL
attribute [-simp] AV.isAgg aappI aapp alen shp good comps
set_option linter.unusedVariables false
set_option linter.unusedSimpArgs false
set_option maxRecDepth 20000

section
variable {A B C : Heap} {K Kp : AV → Heap → Prop} {P : Program}
theorem pkv_new {l : List Nat} {j : Nat} (h : j % 4 = 0) : pkv (l.take j) (j / 4) = 0 := by
  unfold pkv
  simp only [take_getD]
  rw [if_neg (by omega), if_neg (by omega), if_neg (by omega), if_neg (by omega)]
theorem tab_new {l : List Nat} {j : Nat} (h : j % 4 = 0) : tab ((j + 3) / 4) (pkv (l.take j)) ++ [0] = tab ((j + 4) / 4) (pkv (l.take j)) := by
  have e1 : (j + 3) / 4 = j / 4 := by omega
  have e2 : (j + 4) / 4 = j / 4 + 1 := by omega
  rw [e1, e2, ← pkv_new (l := l) h]
  simp [tab, List.range_succ]
theorem w_ref10_Put {l : List Nat} (hl : Slots l) (hlen : l.length ≤ 1000) : Gives Try.prog F_ref10_Put [.isl .i64 (ints l)] (.iarr .u8 256 (ints (sealN (pk l)))) := by
  refine v_ref10_Put (by simp) ?_
  simp -implicitDefEqProofs [a_ref10_Put, q_ref10_Put_0, q_ref10_Put_1, q_ref10_Put_2, -List.reduceReplicate]
  intro g2
  obtain ⟨D, hD⟩ : ∃ D, H0.set g2 (.var 54 [.iarr .u8 256 (List.replicate 256 0)]) = D := ⟨_, rfl⟩
  have d2 : D g2 = some (.var 54 [.iarr .u8 256 (List.replicate 256 0)]) := by rw [← hD]; simp
  rw [hD]
  clear hD
  refine X_lp (fun (j : Nat) env E => j ≤ l.length ∧ env 0 = .isl .i64 (ints l) ∧ env 2 = .ptr g2 0 ∧ SlS 5 .u8 (env 3) (ints (tab ((j + 3) / 4) (pkv (l.take j)))) D E ∧ env 4 = .int .i64 j) (fun j => l.length - j) 0
    ⟨by omega, by simp, by simp, by simpa [tab] using SlS.nil (Sub_refl D), by simp⟩ ?_
  rintro j env E ⟨hj, e0, e2, hv, e4⟩
  by_cases hjl : j < l.length
  · have hjl' : (j : Int) < l.length := by omega
    have wi : IntKind.i64.wrap ((j : Int) + 1) = (j : Int) + 1 := wrap_i64 (by omega)
    have inner : ∀ (env : AEnv) (E : Heap) (x : Nat), env 0 = .isl .i64 (ints l) → env 2 = .ptr g2 0 → env 3 = .own x 0 ((j + 4) / 4) → SlS 5 .u8 (.own x 0 ((j + 4) / 4)) (ints (tab ((j + 4) / 4) (pkv (l.take j)))) D E → env 4 = .int .i64 j →
        AVL.X Try.prog (lp Try.prog (fin [ARes.cell 2 (.ia .u8 256) 256] (.iarr .u8 256 (ints (sealN (pk l)))))
          (.blk 0 (.thn (.seq (.region q_ref10_Put_13) .ret) .done)) (fun (j : Nat) env E => j ≤ l.length ∧ env 0 = .isl .i64 (ints l) ∧ env 2 = .ptr g2 0 ∧ SlS 5 .u8 (env 3) (ints (tab ((j + 3) / 4) (pkv (l.take j)))) D E ∧ env 4 = .int .i64 j) (fun j => l.length - j) j)
          (.seq (.region q_ref10_Put_6) (.seq (.seq (.region q_ref10_Put_7) (.block 2 (.loop q_ref10_Put_L11))) (.region q_ref10_Put_11))) (.blk 1 (.thn (.region q_ref10_Put_12) .done)) env E := by
      intro env E x e0 e2 e3 hv e4
      have hx := hl _ (List.getElem_mem hjl)
      have wb : IntKind.u8.wrap ((l[j] : Nat) : Int) = ((l[j] : Nat) : Int) := wrap_u8 (by omega)
      simp -implicitDefEqProofs [q_ref10_Put_6, q_ref10_Put_7, e0, e4, hjl, hjl', wb]
      refine X_lp (fun (k : Nat) env B => k ≤ j % 4 ∧ B = E ∧ env 0 = .isl .i64 (ints l) ∧ env 2 = .ptr g2 0 ∧ env 3 = .own x 0 ((j + 4) / 4) ∧ env 4 = .int .i64 j ∧ env 5 = .int .u8 ((l[j] * 4 ^ k : Nat) : Int) ∧ env 6 = .int .i64 k) (fun k => 4 - k) 0
        ⟨by omega, rfl, by simp [e0], by simp [e2], by simp [e3], by simp [e4], by simp, by simp⟩ ?_
      rintro k env B ⟨hk, rfl, e0, e2, e3, e4, e5, e6⟩
      have t3 : (j : Int).tmod 4 = ((j % 4 : Nat) : Int) := by rw [Int.tmod_eq_emod_of_nonneg (by omega)]; omega
      by_cases hkl : k < j % 4
      · have hkl' : (k : Int) < (j : Int).tmod 4 := by rw [t3]; omega
        have wk : IntKind.i64.wrap ((k : Int) + 1) = (k : Int) + 1 := wrap_i64 (by omega)
        have p4 : 4 ^ k ≤ 4 ^ 2 := Nat.pow_le_pow_right (by decide) (by omega)
        obtain ⟨y, hy⟩ : ∃ y, l[j] * 4 ^ k = y := ⟨_, rfl⟩
        have hyl : y ≤ 2 * 16 := by rw [← hy]; exact Nat.mul_le_mul hx p4
        have wm : IntKind.u8.wrap ((y : Int) * 4) = ((y * 4 : Nat) : Int) := by rw [wrap_u8 (by omega)]; omega
        have hy4 : l[j] * 4 ^ (k + 1) = y * 4 := by rw [Nat.pow_succ, ← Nat.mul_assoc, hy]
        rw [hy] at e5
        simp -implicitDefEqProofs [q_ref10_Put_L11, q_ref10_Put_8, q_ref10_Put_9, q_ref10_Put_10, e4, e5, e6, hkl', wk, wm]
        exact lp_next (k + 1) ⟨by omega, rfl, by simp [e0], by simp [e2], by simp [e3], by simp [e4], by simp; exact_mod_cast hy4.symm, by simp⟩ (by omega)
      · have hke : k = j % 4 := by omega
        have hkl' : ¬ (k : Int) < (j : Int).tmod 4 := by rw [t3]; omega
        have hp : 4 ^ k = 2 ^ (2 * (j % 4)) := by rw [hke, show (4 : Nat) = 2 ^ 2 from rfl, ← Nat.pow_mul]
        have hst := pkv_step hl hjl
        have hlt := pkv_lt (hl.take (j + 1)) (j / 4)
        rw [hp] at e5
        obtain ⟨_, r3, _, _⟩ := hv.at
        have t1 : IntKind.i64.wrap ((j : Int) / 4) = ((j / 4 : Nat) : Int) := by rw [wrap_i64 (by omega)]; omega
        have hq : j / 4 < (j + 4) / 4 := by omega
        obtain ⟨y, hy⟩ : ∃ y, l[j] * 2 ^ (2 * (j % 4)) = y := ⟨_, rfl⟩
        have hsum : IntKind.u8.wrap (((pkv (l.take j) (j / 4) : Nat) : Int) + (y : Int)) = ((pkv (l.take (j + 1)) (j / 4) : Nat) : Int) := by
          rw [hy] at hst; rw [wrap_u8 (by omega), ← hst]; simp
        rw [hy] at e5
        obtain ⟨q, hqq⟩ : ∃ q, j / 4 = q := ⟨_, rfl⟩
        obtain ⟨M, hM⟩ : ∃ M, (j + 4) / 4 = M := ⟨_, rfl⟩
        rw [hqq] at hsum t1 hq
        rw [hM] at e3 r3 hq hv
        have hq' : (q : Int) < M := by omega
        simp -implicitDefEqProofs [q_ref10_Put_L11, q_ref10_Put_8, q_ref10_Put_11, q_ref10_Put_12, e3, e4, e5, e6, hkl', t1, r3, hq, hq', tab_get, hsum, wi]
        refine lp_next (j + 1) ⟨by omega, by simp [e0], by simp [e2], ?_, by simp⟩ (by omega)
        have hnew : (tab M (pkv (l.take j))).set q (pkv (l.take (j + 1)) q) = tab ((j + 1 + 3) / 4) (pkv (l.take (j + 1))) := by
          rw [tab_set, show (j + 1 + 3) / 4 = M by omega]
          refine tab_ext fun p _ => ?_
          by_cases e : p = q
          · subst e; simp
          · rw [if_neg e, pkv_other (by omega)]
        rw [← hnew]
        obtain ⟨o1, o2, _, _⟩ := hv.at
        exact ⟨by simpa using sub_set' hv.sub o1, .inr ⟨x, by simp [e3, tab], o1, by simp⟩⟩
    by_cases h4 : j % 4 = 0
    · have t3 : (j : Int).tmod 4 = 0 := by rw [Int.tmod_eq_emod_of_nonneg (by omega)]; omega
      obtain ⟨v, e3⟩ : ∃ v, env 3 = v := ⟨_, rfl⟩
      rw [e3] at hv
      have hs := hv.scl
      simp -implicitDefEqProofs [q_ref10_Put_L13, q_ref10_Put_3, q_ref10_Put_4, q_ref10_Put_5, e0, e3, e4, hjl, hjl', t3, hs.size, hs.shp, hs.agg, hs.good, hs.comps, hs.st]
      intro g9 h9
      refine hv.appS (ys := [0]) (sub_none h9) (srcI_row set_eq' rfl) (by simp [tab]; omega) fun v2 C2 hv2 hag2 => ?_
      have e0l : ints (tab ((j + 3) / 4) (pkv (l.take j))) ++ [0] = ints (tab ((j + 4) / 4) (pkv (l.take j))) := by rw [← tab_new h4]; simp [ints]
      rw [e0l] at hv2
      obtain ⟨x, r1, r2, r3⟩ := hv2.pos (by simp [tab])
      have hlx : (ints (tab ((j + 4) / 4) (pkv (l.take j)))).length = (j + 4) / 4 := by simp [tab]
      rw [hlx] at r1
      subst r1
      exact inner _ _ x (by simp [e0]) (by simp [e2]) (by simp) hv2 (by simp [e4])
    · have t3 : ¬ (j : Int).tmod 4 = 0 := by rw [Int.tmod_eq_emod_of_nonneg (by omega)]; omega
      have e34 : (j + 3) / 4 = (j + 4) / 4 := by omega
      rw [e34] at hv
      obtain ⟨x, r1, r2, r3⟩ := hv.pos (by simp [tab])
      have hlx : (ints (tab ((j + 4) / 4) (pkv (l.take j)))).length = (j + 4) / 4 := by simp [tab]
      rw [hlx] at r1
      rw [r1] at hv
      simp -implicitDefEqProofs [q_ref10_Put_L13, q_ref10_Put_3, q_ref10_Put_4, e0, r1, e4, hjl, hjl', t3]
      exact inner _ _ x (by simp [e0]) (by simp [e2]) (by simp [r1]) hv (by simp [e4])
  · have hje : j = l.length := by omega
    subst hje
    rw [List.take_length] at hv
    have hpk : tab ((l.length + 3) / 4) (pkv l) = pk l := rfl
    rw [hpk] at hv
    obtain ⟨v, e3⟩ : ∃ v, env 3 = v := ⟨_, rfl⟩
    rw [e3] at hv
    have hs := hv.scl
    simp -implicitDefEqProofs [q_ref10_Put_L13, q_ref10_Put_3, q_ref10_Put_13, e0, e3, e4, hs.size, hs.shp, hs.agg, hs.good, hs.comps, hs.st]
    refine (w_ref08_Sealed (pk_bytes hl) (by rw [pk_len]; omega)).call (.cons hv.vw hs.agg .nil) rfl ?_
    simp -implicitDefEqProofs [e2, hv.sub _ _ d2, outOf, -List.reduceReplicate]
end
end Go.Proofs.Ytfdckjliinpjiaa

/- The walk of the law's same: a map that is as it should be. -/
namespace Go.Proofs.Ytfdckjliinpjiaa
open Go AVL
attribute [-simp] AV.isAgg aappI aapp alen shp good comps
set_option linter.unusedVariables false
set_option linter.unusedSimpArgs false
set_option maxRecDepth 20000

section
variable {A B C : Heap} {K Kp : AV → Heap → Prop} {P : Program}
theorem w_law10_same {g gs gr n : Nat} {l : List Nat} (hm : MapIn g gs l B) (hl : Bytes l) (hlen : l.length ≤ 1000) (hr : B gr = some (.irow 3 .i64 (ints l))) (hn : n = l.length) (hk : ∀ C, B.Sub C → K (.bool true) C) :
    SimX Try.prog F_law10_same [.ptr g 0, .own gr 0 n] B (outK K Kp) := by
  subst hn
  refine j_law10_same (by simp) ?_
  simp -implicitDefEqProofs [a_law10_same, q_law10_same_0, q_law10_same_1]
  refine w_Map_Len hm ?_
  simp -implicitDefEqProofs [q_law10_same_3]
  refine X_lp (fun (j : Nat) env E => j ≤ l.length ∧ B = E ∧ env 0 = .ptr g 0 ∧ env 1 = .own gr 0 l.length ∧ env 5 = .int .i64 j) (fun j => l.length - j) 0 ⟨by omega, rfl, by simp, by simp, by simp⟩ ?_
  rintro j env E ⟨hj, rfl, e0, e1, e5⟩
  by_cases hjl : j < l.length
  · have hjl' : (j : Int) < l.length := by omega
    have wi : IntKind.i64.wrap ((j : Int) + 1) = (j : Int) + 1 := wrap_i64 (by omega)
    have hg : getV l j = l[j] := by unfold getV; rw [if_pos (by omega)]; simp [hjl]
    simp -implicitDefEqProofs [q_law10_same_L8, q_law10_same_4, q_law10_same_5, e0, e1, e5, hjl, hjl', hr]
    refine w_Map_Get hm hl ?_
    simp -implicitDefEqProofs [hg, q_law10_same_7, e5, wi]
    exact lp_next (j + 1) ⟨by omega, rfl, by simp [e0], by simp [e1], by simp⟩ (by omega)
  · have hje : j = l.length := by omega
    subst hje
    simp -implicitDefEqProofs [q_law10_same_L8, q_law10_same_4, q_law10_same_8, e0, e1, e5]
    refine X_lp (fun (w : Nat) env E => w ≤ 3 ∧ B.Sub E ∧ env 0 = .ptr g 0 ∧ env 1 = .own gr 0 l.length ∧ env 6 = .int .i64 w) (fun w => 3 - w) 0 ⟨by omega, Sub_refl _, by simp [e0], by simp [e1], by simp⟩ ?_
    rintro w env E ⟨hw, hs, e0, e1, e6⟩
    by_cases hwl : w < 3
    · have hwl' : (w : Int) < 3 := by omega
      have wi : IntKind.i64.wrap ((w : Int) + 1) = (w : Int) + 1 := wrap_i64 (by omega)
      have hil := idx_len l w l.length
      simp -implicitDefEqProofs [q_law10_same_L17, q_law10_same_9, q_law10_same_10, e0, e1, e6, hwl, hwl']
      refine w_law10_all (hm.mono hs) hl hlen fun v E1 hv => ?_
      have hsv := hv.scl
      simp -implicitDefEqProofs [e0, e1, e6, hsv.size, hsv.shp, hsv.agg, hsv.good, hsv.comps, hsv.st]
      have hr1 := hv.sub _ _ (hs _ _ hr)
      refine (w_ref10_Of (l := l) (what := w) (by omega)).call (.cons (vw_irow hr1 (by simp)) rfl (.cons (.refl _) rfl .nil)) fun v2 E2 hv2 => ?_
      have hsv2 := hv2.scl
      obtain ⟨F, hF⟩ : ∃ F, idx l (w : Int) l.length = F := ⟨_, rfl⟩
      have hmE : MapIn g gs l E2 := ((hm.mono hs).mono hv.sub).mono hv2.sub
      have hvE := hv.mono hv2.sub
      have hB2 : B.Sub E2 := sub_tr hs (sub_tr hv.sub hv2.sub)
      have hfi : firstI l w = if 0 < F.length then ((F.getD 0 0 : Nat) : Int) else -1 := by
        unfold firstI; rw [hF]; cases F <;> simp
      have hla : lastI l w = if 0 < F.length then ((F.getD (F.length - 1) 0 : Nat) : Int) else -1 := by
        unfold lastI; rw [hF, List.getLast?_eq_getElem?]
        by_cases h : 0 < F.length
        · rw [if_pos h, List.getElem?_eq_getElem (by omega)]; simp [List.getD_eq_getElem?_getD, List.getElem?_eq_getElem (show F.length - 1 < F.length by omega)]
        · have : F = [] := List.length_eq_zero_iff.1 (by omega)
          subst this; simp
      rw [hF] at hvE hv2 hil
      have tail : ∀ (env : AEnv) (fi la : Int), firstI l w = fi → lastI l w = la → env 0 = .ptr g 0 → env 1 = .own gr 0 l.length → env 6 = .int .i64 w → env 7 = v → env 8 = v2 → env 9 = .int .i64 fi → env 10 = .int .i64 la →
          AVL.X Try.prog (lp Try.prog (inl [ARes.tmp 4] K Kp) (.blk 2 (.thn (.seq (.region q_law10_same_17) .ret) .done)) (fun (w : Nat) env E => w ≤ 3 ∧ B.Sub E ∧ env 0 = .ptr g 0 ∧ env 1 = .own gr 0 l.length ∧ env 6 = .int .i64 w) (fun w => 3 - w) w)
            (.seq (.region q_law10_same_14) (.cond (.t 77) (.seq (.region q_law10_same_15) .ret) .skip)) (.blk 3 (.thn (.region q_law10_same_16) .done)) env E2 := by
        intro env fi la hfi hla e0 e1 e6 e7 e8 e9 e10
        have hFl : (ints F).length = F.length := ints_length F
        simp -implicitDefEqProofs [q_law10_same_14, e0, e1, e6, e7, e8, e9, e10, hsv.size, hsv.shp, hsv.agg, hsv.good, hsv.comps, hsv.st, hsv2.size, hsv2.shp, hsv2.agg, hsv2.good, hsv2.comps, hsv2.st]
        refine (w_law10_ints (a := F) (b := F) (by omega)).call (.cons hvE.vw hsv.agg (.cons hv2.vw hsv2.agg .nil)) rfl ?_
        simp -implicitDefEqProofs [e0, e1, e6, e7, e8, e9, e10, hsv.size, hsv.shp, hsv.agg, hsv.good, hsv.comps, hsv.st, hsv2.size, hsv2.shp, hsv2.agg, hsv2.good, hsv2.comps, hsv2.st]
        refine w_Map_Count hmE hl (by omega) fun E3 h3 => ?_
        simp -implicitDefEqProofs [e0, e1, e6, e7, e8, e9, e10, hF, hv2.len, hsv2.size, hsv2.shp, hsv2.agg, hsv2.good, hsv2.comps, hsv2.st]
        refine w_Map_First (hmE.mono h3) hl (by omega) fun E4 h4 => ?_
        simp -implicitDefEqProofs [e0, e1, e6, e7, e8, e9, e10, hfi]
        refine w_Map_Last ((hmE.mono h3).mono h4) hl (by omega) fun E5 h5 => ?_
        simp -implicitDefEqProofs [e0, e1, e6, e7, e8, e9, e10, hla, q_law10_same_16, wi]
        exact lp_next (w + 1) ⟨by omega, sub_tr hB2 (sub_tr h3 (sub_tr h4 h5)), by simp [e0], by simp [e1], by simp⟩ (by omega)
      simp -implicitDefEqProofs [q_law10_same_11, q_law10_same_12, hv2.len, hsv.size, hsv.shp, hsv.agg, hsv.good, hsv.comps, hsv.st, hsv2.size, hsv2.shp, hsv2.agg, hsv2.good, hsv2.comps, hsv2.st]
      by_cases hF0 : 0 < F.length
      · have hFne : ¬ F = [] := by rintro rfl; simp at hF0
        obtain ⟨x, r1, r2, r3⟩ := hv2.pos (by simpa using hF0)
        rw [if_pos hF0] at hfi hla
        have wl : IntKind.i64.wrap ((F.length : Int) - 1) = ((F.length - 1 : Nat) : Int) := by rw [wrap_i64 (by omega)]; omega
        have hl1 : F.length - 1 < F.length := by omega
        have hl1' : ((F.length - 1 : Nat) : Int) < F.length := by omega
        simp -implicitDefEqProofs [hF0, hFne, r1, r3, q_law10_same_13, wl, hl1, hl1']
        refine tail _ _ _ hfi hla ?_ ?_ ?_ ?_ ?_ ?_ ?_ <;> simp [e0, e1, e6, r1, hl1, hF0]
      · have hFe : F = [] := List.length_eq_zero_iff.1 (by omega)
        simp -implicitDefEqProofs [hFe]
        rw [if_neg hF0] at hfi hla
        refine tail _ _ _ hfi hla ?_ ?_ ?_ ?_ ?_ ?_ ?_ <;> simp [e0, e1, e6]
    · have hwe : w = 3 := by omega
      subst hwe
      simp -implicitDefEqProofs [q_law10_same_L17, q_law10_same_9, q_law10_same_17, e0, e1, e6, outOf]
      exact hk E hs
end
end Go.Proofs.Ytfdckjliinpjiaa

/- The walk of the law's works. -/
namespace Go.Proofs.Ytfdckjliinpjiaa
open Go AVL
attribute [-simp] AV.isAgg aappI aapp alen shp good comps
set_option linter.unusedVariables false
set_option linter.unusedSimpArgs false
set_option maxRecDepth 20000

section
variable {A B C : Heap} {K Kp : AV → Heap → Prop} {P : Program}
instance (l : List Nat) : Decidable (Bytes l) := inferInstanceAs (Decidable (∀ x ∈ l, x < 256))
instance (l : List Nat) : Decidable (Slots l) := inferInstanceAs (Decidable (∀ x ∈ l, x ≤ 2))
theorem MapIn.other {g gs x : Nat} {l : List Nat} {c : Cont} (h : MapIn g gs l B) (h1 : x ≠ g) (h2 : x ≠ gs) : MapIn g gs l (B.set x c) := ⟨by simp [Ne.symm h1, h.cg], by simp [Ne.symm h2, h.cs]⟩
theorem MapIn.ne {g gs : Nat} {l : List Nat} (h : MapIn g gs l B) : g ≠ gs := by
  rintro rfl; have h1 := h.cg; have h2 := h.cs; rw [h1] at h2; cases h2
theorem MapIn.set {g gs : Nat} {l l' : List Nat} (h : MapIn g gs l B) (hl : l'.length = l.length) : MapIn g gs l' (B.set gs (.irow T_uint8 .u8 (ints l'))) := ⟨by simp [h.ne, h.cg, hl], by simp⟩
theorem MapAt.set {g gs : Nat} {l l' : List Nat} (h : MapAt A g gs l B) (hl : l'.length = l.length) : MapAt A g gs l' (B.set gs (.irow T_uint8 .u8 (ints l'))) := ⟨sub_set' h.sub h.ns, h.ng, h.ns, h.ne, h.m.set hl⟩
theorem MapAt.took {g gs : Nat} {l l' : List Nat} (h : MapAt A g gs l B) (hl : l'.length = l.length) (h1 : C gs = some (.irow T_uint8 .u8 (ints l'))) (h2 : (B.del gs).Sub C) : MapAt A g gs l' C := by
  refine ⟨fun x c hx => h2 _ _ (by rw [del_app, if_neg (fresh_ne hx h.ns)]; exact h.sub _ _ hx), h.ng, h.ns, h.ne, ⟨?_, h1⟩⟩
  rw [hl]
  exact h2 _ _ (by rw [del_app, if_neg h.ne]; exact h.m.cg)
theorem zero_holds : holdsN (List.replicate 256 0) = false := by decide +kernel
theorem w_law10_works : Gives Try.prog F_law10_works [] (.bool true) := by
  refine v_law10_works (by simp) ?_
  simp -implicitDefEqProofs [a_law10_works, q_law10_works_0, q_law10_works_1]
  refine w_slotmap_New (fun h => by omega) fun _ _ g gs B hm => ?_
  simp -implicitDefEqProofs [q_law10_works_2]
  refine w_slotmap_New (fun h => ?_) fun h _ => by omega
  simp -implicitDefEqProofs [q_law10_works_3, q_law10_works_5]
  refine w_Map_Take hm.m (by decide) (by decide) (fun h => by omega) (fun _ h => absurd h (by decide)) fun _ _ v E1 k1 hv => ?_
  have m1 := hm.took (l' := [1, 1, 1, 0, 0, 0, 0, 0, 0]) rfl k1 hv.sub
  obtain ⟨x, hvx, x1, x2⟩ := hv.pos (by decide)
  have hvx' : v = .own x 0 3 := hvx
  subst hvx'
  have x2' : E1 x = some (.irow 3 .i64 (ints [0, 1, 2])) := x2
  simp -implicitDefEqProofs [q_law10_works_6]
  refine w_Map_Take m1.m (by decide) (by decide) (fun h => by omega) (fun _ h E2 s2 => ?_) fun _ h => absurd h (by decide)
  have m2 := m1.mono s2
  have x3 := s2 _ _ x2'
  simp -implicitDefEqProofs [q_law10_works_7]
  refine w_Map_Set m2.m (by decide) ?_
  have m3 := m2.set (l' := [1, 2, 1, 0, 0, 0, 0, 0, 0]) rfl
  have e3 : setL [1, 1, 1, 0, 0, 0, 0, 0, 0] 1 2 = [1, 2, 1, 0, 0, 0, 0, 0, 0] := by decide
  have f3 : setE [1, 1, 1, 0, 0, 0, 0, 0, 0] 1 2 = 0 := by decide
  have n3 : x ≠ gs := fun e => by subst e; rw [m2.m.cs] at x3; cases x3
  rw [e3, f3]
  obtain ⟨E3, hE3⟩ : ∃ E3, E2.set gs (.irow T_uint8 .u8 (ints [1, 2, 1, 0, 0, 0, 0, 0, 0])) = E3 := ⟨_, rfl⟩
  have x4 : E3 x = some (.irow 3 .i64 (ints [0, 1, 2])) := by rw [← hE3, Heap.set_ne _ _ n3]; exact x3
  rw [hE3] at m3 ⊢
  clear hE3
  simp -implicitDefEqProofs [q_law10_works_8]
  refine w_Map_Set m3.m (by decide) ?_
  have e4 : setL [1, 2, 1, 0, 0, 0, 0, 0, 0] 9 0 = [1, 2, 1, 0, 0, 0, 0, 0, 0] := by decide
  have f4 : setE [1, 2, 1, 0, 0, 0, 0, 0, 0] 9 0 = 2 := by decide
  rw [e4, f4, set_same m3.m.cs]
  simp -implicitDefEqProofs [q_law10_works_9]
  have hS : Slots [1, 2, 1, 0, 0, 0, 0, 0, 0] := by decide
  refine w_Map_Put m3.m hS (by decide) fun E4 s4 => ?_
  have m4 := m3.mono s4
  have x5 := s4 _ _ x4
  have rd := rdOK_seal hS (by decide)
  have up := upk_seal hS (by decide)
  simp -implicitDefEqProofs
  refine w_slotmap_Read (sealN_bytes (pk_bytes hS)) (sealN_len _) (fun h => by omega) (fun _ _ h => absurd rd h) fun _ _ _ gn gsn E5 m5 => ?_
  have e5 : upkL (sealN (pk [1, 2, 1, 0, 0, 0, 0, 0, 0])) (Int.toNat 9) = [1, 2, 1, 0, 0, 0, 0, 0, 0] := up
  rw [e5] at m5
  have m6 := m4.mono m5.sub
  have x6 := m5.sub _ _ x5
  simp -implicitDefEqProofs [q_law10_works_10, -List.reduceReplicate]
  refine w_slotmap_Read (x := List.replicate 256 0) (by decide) (by decide) (fun h => by omega) (fun _ _ h E6 s6 => ?_) fun _ _ h => absurd h.1 (by rw [zero_holds]; decide)
  have m7 := m6.mono s6
  have n7 := m5.mono s6
  have x7 := s6 _ _ x6
  simp -implicitDefEqProofs [q_law10_works_11, q_law10_works_13]
  refine w_Map_Copy m7.m (by decide) (by decide) fun gc gsc E7 c7 => ?_
  have m8 := m7.mono c7.sub
  have n8 := n7.mono c7.sub
  have x8 := c7.sub _ _ x7
  simp -implicitDefEqProofs [q_law10_works_14]
  refine w_Map_Set m8.m (by decide) ?_
  have e9 : setL [1, 2, 1, 0, 0, 0, 0, 0, 0] 0 0 = [0, 2, 1, 0, 0, 0, 0, 0, 0] := by decide
  have f9 : setE [1, 2, 1, 0, 0, 0, 0, 0, 0] 0 0 = 0 := by decide
  rw [e9, f9]
  have m9 := m8.set (l' := [0, 2, 1, 0, 0, 0, 0, 0, 0]) rfl
  have p1 : gs ≠ gn := fresh_ne m4.m.cs m5.ng
  have p2 : gs ≠ gsn := fresh_ne m4.m.cs m5.ns
  have p3 : gs ≠ gc := fresh_ne m7.m.cs c7.ng
  have p4 : gs ≠ gsc := fresh_ne m7.m.cs c7.ns
  have p5 : x ≠ gs := fun e => by subst e; rw [m8.m.cs] at x8; cases x8
  have n9 := n8.m.other (c := .irow T_uint8 .u8 (ints [0, 2, 1, 0, 0, 0, 0, 0, 0])) p1 p2
  have c9 := c7.m.other (c := .irow T_uint8 .u8 (ints [0, 2, 1, 0, 0, 0, 0, 0, 0])) p3 p4
  have x9 : (E7.set gs (.irow T_uint8 .u8 (ints [0, 2, 1, 0, 0, 0, 0, 0, 0]))) x = some (.irow 3 .i64 (ints [0, 1, 2])) := by rw [Heap.set_ne _ _ p5]; exact x8
  obtain ⟨E8, hE8⟩ : ∃ E8, E7.set gs (.irow T_uint8 .u8 (ints [0, 2, 1, 0, 0, 0, 0, 0, 0])) = E8 := ⟨_, rfl⟩
  rw [hE8] at m9 n9 c9 x9 ⊢
  clear hE8
  have q1 : getV [1, 2, 1, 0, 0, 0, 0, 0, 0] 1 = 2 := by decide
  have q2 : firstI [1, 2, 1, 0, 0, 0, 0, 0, 0] 0 = 3 := by decide
  have q3 : lastI [1, 2, 1, 0, 0, 0, 0, 0, 0] 1 = 2 := by decide
  have q4 : (idx [1, 2, 1, 0, 0, 0, 0, 0, 0] 1 9).length = 2 := by decide
  have q5 : getV [1, 2, 1, 0, 0, 0, 0, 0, 0] 0 = 1 := by decide
  have q6 : getV [0, 2, 1, 0, 0, 0, 0, 0, 0] (-1) = -1 := by decide
  simp -implicitDefEqProofs [q_law10_works_15, x9, ints]
  refine w_Map_Get n9 (by decide) ?_
  simp -implicitDefEqProofs [q1]
  refine w_Map_First n9 (by decide) (by decide) fun E9 s9 => ?_
  simp -implicitDefEqProofs [q2]
  refine w_Map_Last (n9.mono s9) (by decide) (by decide) fun E10 s10 => ?_
  simp -implicitDefEqProofs [q3]
  refine w_Map_Count ((n9.mono s9).mono s10) (by decide) (by decide) fun E11 s11 => ?_
  simp -implicitDefEqProofs [q4]
  have s12 := sub_tr s9 (sub_tr s10 s11)
  refine w_Map_Get (c9.mono s12) (by decide) ?_
  simp -implicitDefEqProofs [q5]
  refine w_Map_Get (m9.m.mono s12) (by decide) ?_
  simp -implicitDefEqProofs [q6]
  refine w_Map_Len (m9.m.mono s12) ?_
  simp -implicitDefEqProofs [outOf]
end
end Go.Proofs.Ytfdckjliinpjiaa

/- The walk of SlotmapDoes. -/
namespace Go.Proofs.Ytfdckjliinpjiaa
open Go AVL
attribute [-simp] AV.isAgg aappI aapp alen shp good comps
set_option linter.unusedVariables false
set_option linter.unusedSimpArgs false
set_option maxRecDepth 20000

section
variable {A B C : Heap} {K Kp : AV → Heap → Prop} {P : Program}
structure Sop where
  kind : Int
  i : Int
  what : Int
def sopV (o : Sop) : AV := .agg [.int .i64 o.kind, .int .i64 o.i, .int .i64 o.what]
def sops (m : List Sop) : List AV := m.map sopV
theorem sops_in : ∀ {l : List AV}, (∀ x ∈ l, ATy.has (.agg [.int .i64, .int .i64, .int .i64]) x) → ∃ m, l = sops m
  | [], _ => ⟨[], rfl⟩
  | v :: l, h => by
    obtain ⟨m, h1⟩ := sops_in (l := l) fun x hx => h x (by simp [hx])
    have h3 := h v (by simp)
    unfold ATy.has at h3
    obtain ⟨fs, rfl, h3⟩ := h3
    simp only [ATy.hasL] at h3
    obtain ⟨_, _, rfl, k1, _, _, rfl, k2, _, _, rfl, k3, rfl⟩ := h3
    unfold ATy.has at k1 k2 k3
    obtain ⟨a, rfl, w1⟩ := k1
    obtain ⟨b, rfl, w2⟩ := k2
    obtain ⟨c, rfl, w3⟩ := k3
    exact ⟨⟨a, b, c⟩ :: m, by rw [h1]; rfl⟩
theorem setL_slots {l : List Nat} {i what : Int} (h : Slots l) : Slots (setL l i what) := by
  unfold setL
  split
  · rename_i he
    intro x hx
    have hw : 0 ≤ what ∧ what ≤ 2 := by
      unfold setE at he
      split at he
      · omega
      · split at he <;> omega
    rcases List.mem_or_eq_of_mem_set hx with hx | hx
    · exact h x hx
    · omega
  · exact h
theorem tk_slots (T : List Nat) : ∀ {l : List Nat}, Slots l → Slots (tk l T) := by
  induction T with
  | nil => intro l h; exact h
  | cons a r ih =>
    intro l h
    refine ih (l := l.set a 1) fun x hx => ?_
    rcases List.mem_or_eq_of_mem_set hx with hx | hx
    · exact h x hx
    · omega
def DoesI (m : List Sop) (N g gs : Nat) (s : Nat × List Nat) (env : AEnv) (E : Heap) : Prop :=
  s.1 ≤ m.length ∧ s.2.length = N ∧ Slots s.2 ∧ MapAt H0 g gs s.2 E ∧ (∃ gr, env 7 = .own gr 0 N ∧ E gr = some (.irow 3 .i64 (ints s.2))) ∧ env 0 = .int .i64 N ∧ env 1 = .dsl 3 (sops m) ∧ env 5 = .ptr g 0 ∧ env 8 = .int .i64 s.1
def DoesR (m : List Sop) (N g gs j : Nat) (L : List Nat) : APost := lp Try.prog (fin [ARes.tmp 4] (.bool true)) (.blk 0 (.thn (.seq (.region q_law10_SlotmapDoes_26) .ret) .done)) (DoesI m N g gs) (fun s => m.length - s.1) (j, L)
def DoesK : Kt := .thn (.seq (.region q_law10_SlotmapDoes_23) (.cond (.t 143) (.seq (.region q_law10_SlotmapDoes_24) .ret) .skip)) (.blk 1 (.thn (.region q_law10_SlotmapDoes_25) .done))
theorem does_tail {m : List Sop} {N g gs gc gsc gr g' j : Nat} {L L' : List Nat} {env : AEnv} {E2 : Heap} (hN : N ≤ 200) (hjl : j < m.length) (hml : m.length ≤ 60) (hL : L.length = N) (hS : Slots L) (hL' : L'.length = N) (hS' : Slots L') (hm2 : MapAt H0 g gs L' E2) (hc2 : MapIn gc gsc L E2) (hr2 : E2 g' = some (.irow 3 .i64 (ints L'))) (hw2 : E2 gr = some (.irow 3 .i64 (ints L)))
    (e0 : env 0 = .int .i64 N) (e1 : env 1 = .dsl 3 (sops m)) (e5 : env 5 = .ptr g 0) (e7 : env 7 = .own g' 0 N) (e8 : env 8 = .int .i64 j) (e9 : env 9 = .ptr gc 0) (e10 : env 10 = .own gr 0 N) : XE Try.prog (DoesR m N g gs j L) .normal DoesK env E2 := by
  have wi : IntKind.i64.wrap ((j : Int) + 1) = (j : Int) + 1 := wrap_i64 (by omega)
  simp -implicitDefEqProofs [DoesK, q_law10_SlotmapDoes_23, e0, e1, e5, e7, e8, e9, e10]
  refine w_law10_same hm2.m hS'.bytes (by omega) hr2 hL'.symm fun E3 s3 => ?_
  simp -implicitDefEqProofs [e0, e1, e5, e7, e8, e9, e10]
  refine w_law10_same (hc2.mono s3) hS.bytes (by omega) (s3 _ _ hw2) hL.symm fun E4 s4 => ?_
  simp -implicitDefEqProofs [q_law10_SlotmapDoes_25, e0, e1, e5, e7, e8, e9, e10, wi]
  exact lp_next (j + 1, L') ⟨by simp only; omega, hL', hS', (hm2.mono s3).mono s4, ⟨g', by simp [e7], s4 _ _ (s3 _ _ hr2)⟩, by simp [e0], by simp [e1], by simp [e5], by simp⟩ (by simp only; omega)
theorem does_set {m : List Sop} {N g gs gc gsc gr j : Nat} {L : List Nat} {env : AEnv} {E1 E : Heap} {o : Sop} (hN : N ≤ 200) (hjl : j < m.length) (hml : m.length ≤ 60) (hL : L.length = N) (hS : Slots L) (hmE : MapAt H0 g gs L E) (hc : MapAt E gc gsc L E1) (hr : E gr = some (.irow 3 .i64 (ints L))) (ho : m[j] = o)
    (e0 : env 0 = .int .i64 N) (e1 : env 1 = .dsl 3 (sops m)) (e5 : env 5 = .ptr g 0) (e7 : env 7 = .own gr 0 N) (e8 : env 8 = .int .i64 j) (e9 : env 9 = .ptr gc 0) (e10 : env 10 = .own gr 0 N) : 
    X Try.prog (DoesR m N g gs j L) (.seq (.regionD q_law10_SlotmapDoes_14) (.seq (.seq (.regionD q_law10_SlotmapDoes_15) (.cond (.t 97) (.seq (.region q_law10_SlotmapDoes_16) .ret) .skip)) (.region q_law10_SlotmapDoes_17))) DoesK env E1 := by
  have hsl : (sops m).length = m.length := by simp [sops]
  have hjl' : (j : Int) < m.length := by omega
  have hjs : j < (sops m).length := by rw [hsl]; exact hjl
  have hget : (sops m)[j] = sopV o := by simp [sops, ho]
  have hr1 := hc.sub _ _ hr
  have hm1 := hmE.mono hc.sub
  have hgc : gs ≠ gc := fresh_ne hmE.m.cs hc.ng
  have hgsc : gs ≠ gsc := fresh_ne hmE.m.cs hc.ns
  have hggc : g ≠ gc := fresh_ne hmE.m.cg hc.ng
  simp -implicitDefEqProofs [q_law10_SlotmapDoes_14, e1, e5, e7, e8, hsl, hjl, hjl', hjs, hget, sopV]
  refine w_ref10_Set hr1 hL.symm (by omega) fun g' E2 s2 hg' => ?_
  have hm2 := hm1.mono s2
  have hc2 := hc.mono s2
  have hr2 := s2 _ _ hr1
  simp -implicitDefEqProofs [q_law10_SlotmapDoes_15, e1, e5, e7, e8, hsl, hjl, hjl', hjs, hget, sopV]
  refine w_Map_Set hm2.m hS.bytes ?_
  have ng' : g' ≠ gs := by rintro rfl; rw [hm2.m.cs] at hg'; cases hg'
  have ngr : gr ≠ gs := by rintro rfl; rw [hm2.m.cs] at hr2; cases hr2
  simp -implicitDefEqProofs [q_law10_SlotmapDoes_17, e1, e5, e7, e8]
  refine does_tail (L' := setL L o.i o.what) (g' := g') hN hjl hml hL hS (by simp [hL]) (setL_slots hS) (hm2.set (by simp)) (hc2.m.other hgc hgsc) (by rw [Heap.set_ne _ _ ng']; exact hg') (by rw [Heap.set_ne _ _ ngr]; exact hr2) ?_ ?_ ?_ ?_ ?_ ?_ ?_ <;> simp [e0, e1, e5, e7, e8, e9, e10]
theorem does_take {m : List Sop} {N g gs gc gsc gr j : Nat} {L : List Nat} {env : AEnv} {E1 E : Heap} {o : Sop} (hN : N ≤ 200) (hjl : j < m.length) (hml : m.length ≤ 60) (hL : L.length = N) (hS : Slots L) (hmE : MapAt H0 g gs L E) (hc : MapAt E gc gsc L E1) (hr : E gr = some (.irow 3 .i64 (ints L))) (ho : m[j] = o)
    (e0 : env 0 = .int .i64 N) (e1 : env 1 = .dsl 3 (sops m)) (e5 : env 5 = .ptr g 0) (e7 : env 7 = .own gr 0 N) (e8 : env 8 = .int .i64 j) (e9 : env 9 = .ptr gc 0) (e10 : env 10 = .own gr 0 N) : 
    X Try.prog (DoesR m N g gs j L) (.seq (.region q_law10_SlotmapDoes_18) (.seq (.region q_law10_SlotmapDoes_19) (.seq (.seq (.region q_law10_SlotmapDoes_20) (.cond (.t 128) (.seq (.region q_law10_SlotmapDoes_21) .ret) .skip)) (.region q_law10_SlotmapDoes_22)))) DoesK env E1 := by
  have hsl : (sops m).length = m.length := by simp [sops]
  have hjl' : (j : Int) < m.length := by omega
  have hjs : j < (sops m).length := by rw [hsl]; exact hjl
  have hget : (sops m)[j] = sopV o := by simp [sops, ho]
  have hr1 := hc.sub _ _ hr
  have hm1 := hmE.mono hc.sub
  have hgc : gs ≠ gc := fresh_ne hmE.m.cs hc.ng
  have hgsc : gs ≠ gsc := fresh_ne hmE.m.cs hc.ns
  have hggc : g ≠ gc := fresh_ne hmE.m.cg hc.ng
  simp -implicitDefEqProofs [q_law10_SlotmapDoes_18, e1, e5, e7, e8, hsl, hjl, hjl', hjs]
  rw [hget]
  simp -implicitDefEqProofs [sopV]
  have ngr : gr ≠ gs := by rintro rfl; rw [hm1.m.cs] at hr1; cases hr1
  refine w_ref10_Take hr1 hL.symm (by omega) (fun hi => ?_) (fun hi0 hi E2 s2 => ?_) fun hi0 hi g' v E2 s2 hg' hv => ?_
  · simp -implicitDefEqProofs [q_law10_SlotmapDoes_19, e1, e5, e7, e8, hsl, hjl, hjl', hjs]
    rw [hget]
    simp -implicitDefEqProofs [sopV]
    refine w_Map_Take hm1.m hS.bytes (by omega) (fun _ E3 s3 => ?_) (fun h => by omega) (fun h => by omega)
    simp -implicitDefEqProofs [q_law10_SlotmapDoes_20]
    refine (w_law10_ints (a := []) (b := []) (by simp)).call (.cons (.nil _) rfl (.cons (.nil _) rfl .nil)) rfl ?_
    simp -implicitDefEqProofs [q_law10_SlotmapDoes_22]
    refine does_tail (L' := L) (g' := gr) hN hjl hml hL hS hL hS (hm1.mono s3) ((hc.mono s3).m) (s3 _ _ hr1) (s3 _ _ hr1) ?_ ?_ ?_ ?_ ?_ ?_ ?_ <;> simp [e0, e1, e5, e7, e8, e9, e10]
  · simp -implicitDefEqProofs [q_law10_SlotmapDoes_19, e1, e5, e7, e8, hsl, hjl, hjl', hjs]
    rw [hget]
    simp -implicitDefEqProofs [sopV]
    refine w_Map_Take (hm1.mono s2).m hS.bytes (by omega) (fun h => by omega) (fun _ _ E3 s3 => ?_) (fun _ h => by omega)
    simp -implicitDefEqProofs [q_law10_SlotmapDoes_20]
    refine (w_law10_ints (a := []) (b := []) (by simp)).call (.cons (.nil _) rfl (.cons (.nil _) rfl .nil)) rfl ?_
    simp -implicitDefEqProofs [q_law10_SlotmapDoes_22]
    have s23 := sub_tr s2 s3
    refine does_tail (L' := L) (g' := gr) hN hjl hml hL hS hL hS (hm1.mono s23) ((hc.mono s23).m) (s23 _ _ hr1) (s23 _ _ hr1) ?_ ?_ ?_ ?_ ?_ ?_ ?_ <;> simp [e0, e1, e5, e7, e8, e9, e10]
  · have hs := hv.scl
    simp -implicitDefEqProofs [q_law10_SlotmapDoes_19, e1, e5, e7, e8, hsl, hjl, hjl', hjs, hs.size, hs.shp, hs.agg, hs.good, hs.comps, hs.st]
    rw [hget]
    simp -implicitDefEqProofs [sopV]
    have hm2 := hm1.mono s2
    have hr2 := s2 _ _ hr1
    have ng' : g' ≠ gs := by rintro rfl; rw [hm2.m.cs] at hg'; cases hg'
    refine w_Map_Take hm2.m hS.bytes (by omega) (fun h => by omega) (fun _ h => by omega) fun _ _ v3 E3 k3 hv3 => ?_
    have hs3 := hv3.scl
    have keep : ∀ x c, x ≠ gs → E2 x = some c → E3 x = some c := fun x c hx hc => hv3.sub _ _ (by rw [del_app, if_neg hx]; exact hc)
    have hc3 : MapIn gc gsc L E3 := ⟨keep _ _ (Ne.symm hgc) (hc.mono s2).m.cg, keep _ _ (Ne.symm hgsc) (hc.mono s2).m.cs⟩
    have hm3 := hm2.took (l' := tk L ((idx L 0 L.length).take o.i.toNat)) (tk_len _ _) k3 hv3.sub
    simp -implicitDefEqProofs [q_law10_SlotmapDoes_20, hs.size, hs.shp, hs.agg, hs.good, hs.comps, hs.st, hs3.size, hs3.shp, hs3.agg, hs3.good, hs3.comps, hs3.st]
    refine (w_law10_ints (a := (idx L 0 L.length).take o.i.toNat) (b := (idx L 0 L.length).take o.i.toNat) (by have := idx_len L 0 L.length; simp; omega)).call (.cons hv3.vw hs3.agg (.cons (hv.keep hm2.m.cs keep).vw hs.agg .nil)) rfl ?_
    simp -implicitDefEqProofs [q_law10_SlotmapDoes_22]
    refine does_tail (L' := tk L ((idx L 0 L.length).take o.i.toNat)) (g' := g') hN hjl hml hL hS (by simp [tk_len, hL]) (tk_slots _ hS) hm3 hc3 (keep _ _ ng' hg') (keep _ _ ngr hr2) ?_ ?_ ?_ ?_ ?_ ?_ ?_ <;> simp [e0, e1, e5, e7, e8, e9, e10]
theorem w_SlotmapDoes {n : Int} {m : List Sop} (hml : m.length < 2 ^ 63) : Gives Try.prog F_law10_SlotmapDoes [.int .i64 n, .dsl 3 (sops m)] (.bool true) := by
  refine v_law10_SlotmapDoes (by simp) ?_
  have hsl : (sops m).length = m.length := by simp [sops]
  by_cases h60 : 60 < m.length
  · have h60' : (60 : Int) < m.length := by omega
    simp -implicitDefEqProofs [a_law10_SlotmapDoes, q_law10_SlotmapDoes_0, q_law10_SlotmapDoes_1, q_law10_SlotmapDoes_2, hsl, h60, h60']
    refine w_law10_works.call .nil rfl ?_
    simp -implicitDefEqProofs [outOf]
  have h60' : ¬ (60 : Int) < m.length := by omega
  by_cases h250 : 250 < n
  · simp -implicitDefEqProofs [a_law10_SlotmapDoes, q_law10_SlotmapDoes_0, q_law10_SlotmapDoes_1, q_law10_SlotmapDoes_2, hsl, h60, h60', h250]
    refine w_law10_works.call .nil rfl ?_
    simp -implicitDefEqProofs [outOf]
  simp -implicitDefEqProofs [a_law10_SlotmapDoes, q_law10_SlotmapDoes_0, q_law10_SlotmapDoes_1, q_law10_SlotmapDoes_3, hsl, h60, h60', h250]
  refine w_slotmap_New (fun hn => ?_) fun n1 n200 g gs B hm => ?_
  · rcases hn with hn | hn
    · simp -implicitDefEqProofs [q_law10_SlotmapDoes_4, q_law10_SlotmapDoes_5, hn]
      refine w_law10_works.call .nil rfl ?_
      simp -implicitDefEqProofs [outOf]
    · have hn' : ¬ n < 1 := by omega
      simp -implicitDefEqProofs [q_law10_SlotmapDoes_4, q_law10_SlotmapDoes_5, hn, hn']
      refine w_law10_works.call .nil rfl ?_
      simp -implicitDefEqProofs [outOf]
  have n1' : ¬ n < 1 := by omega
  have n200' : ¬ 200 < n := by omega
  obtain ⟨N, rfl⟩ : ∃ N : Nat, n = N := ⟨n.toNat, by omega⟩
  simp only [Int.toNat_natCast] at hm
  simp -implicitDefEqProofs [q_law10_SlotmapDoes_4, q_law10_SlotmapDoes_6, q_law10_SlotmapDoes_8, n1', n200']
  refine ⟨by omega, fun gr hgr => ?_⟩
  simp -implicitDefEqProofs [q_law10_SlotmapDoes_9]
  refine X_lp (DoesI m N g gs) (fun s => m.length - s.1) (0, List.replicate N 0)
    ⟨by simp, by simp, fun x hx => by rw [List.eq_of_mem_replicate hx]; omega, hm.mono (sub_none hgr), ⟨gr, by simp, by simp [ints]⟩, by simp, by simp, by simp, by simp⟩ ?_
  rintro ⟨j, L⟩ env E ⟨hj, hL, hS, hmE, ⟨gr, e7, hr⟩, e0, e1, e5, e8⟩
  simp only at hj hL hS hmE hr e8
  by_cases hjl : j < m.length
  · have hjl' : (j : Int) < m.length := by omega
    have hjs : j < (sops m).length := by rw [hsl]; exact hjl
    have wi : IntKind.i64.wrap ((j : Int) + 1) = (j : Int) + 1 := wrap_i64 (by omega)
    obtain ⟨o, ho⟩ : ∃ o, m[j] = o := ⟨_, rfl⟩
    have hget : (sops m)[j] = sopV o := by simp [sops, ho]
    simp -implicitDefEqProofs [q_law10_SlotmapDoes_L26, q_law10_SlotmapDoes_10, q_law10_SlotmapDoes_11, q_law10_SlotmapDoes_12, e0, e1, e5, e7, e8, hsl, hjl, hjl']
    refine w_Map_Copy hmE.m (by omega) (by omega) fun gc gsc E1 hc => ?_
    have hr1 := hc.sub _ _ hr
    have hm1 := hmE.mono hc.sub
    have hgc : gs ≠ gc := fresh_ne hmE.m.cs hc.ng
    have hgsc : gs ≠ gsc := fresh_ne hmE.m.cs hc.ns
    have hggc : g ≠ gc := fresh_ne hmE.m.cg hc.ng
    simp -implicitDefEqProofs [q_law10_SlotmapDoes_13, e1, e5, e7, e8, hsl, hjl, hjl', hjs, hget, sopV]
    refine ⟨fun hk0 => ?_, fun hk0 => ?_⟩
    · refine does_set (by omega) hjl (by omega) hL hS hmE hc hr ho ?_ ?_ ?_ ?_ ?_ ?_ ?_ <;> simp [e0, e1, e5, e7, e8]
    · refine does_take (by omega) hjl (by omega) hL hS hmE hc hr ho ?_ ?_ ?_ ?_ ?_ ?_ ?_ <;> simp [e0, e1, e5, e7, e8]
  · have hje : j = m.length := by omega
    subst hje
    simp -implicitDefEqProofs [q_law10_SlotmapDoes_L26, q_law10_SlotmapDoes_10, q_law10_SlotmapDoes_26, e0, e1, e5, e7, e8, hsl]
    refine w_law10_works.call .nil rfl ?_
    simp -implicitDefEqProofs [outOf]
end
end Go.Proofs.Ytfdckjliinpjiaa

/- The walk of SlotmapBack. -/
namespace Go.Proofs.Ytfdckjliinpjiaa
open Go AVL
attribute [-simp] AV.isAgg aappI aapp alen shp good comps
set_option linter.unusedVariables false
set_option linter.unusedSimpArgs false
set_option maxRecDepth 20000

section
variable {A B C : Heap} {K Kp : AV → Heap → Prop} {P : Program}
/-- What the law makes of bytes: each one's rest by three. -/
def md (w : List Nat) : List Nat := w.map (· % 3)
@[simp] theorem md_len (w : List Nat) : (md w).length = w.length := by simp [md]
theorem md_slots (w : List Nat) : Slots (md w) := fun x hx => by
  simp only [md, List.mem_map] at hx
  obtain ⟨y, _, rfl⟩ := hx
  omega
theorem md_get (w : List Nat) (i : Nat) (h : i < w.length) : (md w)[i]'(by simpa using h) = w[i] % 3 := by simp [md]
def mdI (w : List Nat) (i : Nat) : List Nat := (md w).take i ++ List.replicate (w.length - i) 0
theorem mdI_len (w : List Nat) {i : Nat} (h : i ≤ w.length) : (mdI w i).length = w.length := by simp [mdI]; omega
theorem mdI_slots (w : List Nat) (i : Nat) : Slots (mdI w i) := fun x hx => by
  rcases List.mem_append.1 hx with hx | hx
  · exact (md_slots w).take i x hx
  · rw [List.eq_of_mem_replicate hx]; omega
theorem mdI_set (w : List Nat) {i : Nat} (h : i < w.length) : setL (mdI w i) (i : Int) ((w[i] % 3 : Nat) : Int) = mdI w (i + 1) ∧ setE (mdI w i) (i : Int) ((w[i] % 3 : Nat) : Int) = 0 := by
  have he : setE (mdI w i) (i : Int) ((w[i] % 3 : Nat) : Int) = 0 := by
    unfold setE
    rw [mdI_len w (by omega), if_neg (by omega), if_neg (by omega)]
  refine ⟨?_, he⟩
  unfold setL
  rw [if_pos he, Int.toNat_natCast, Int.toNat_natCast, ← md_get w i h]
  exact fill_step (by simp) h
theorem w_SlotmapBack {w x : List Nat} {n : Int} (hw : Bytes w) (hwl : w.length < 2 ^ 63) (hx : Bytes x) (hxl : x.length = 256) : Gives Try.prog F_law10_SlotmapBack [.isl .u8 (ints w), .iarr .u8 256 (ints x), .int .i64 n] (.bool true) := by
  refine v_law10_SlotmapBack (by simp) ?_
  by_cases hg : w.length < 1 ∨ 200 < w.length ∨ 250 < n
  · simp -implicitDefEqProofs [a_law10_SlotmapBack, q_law10_SlotmapBack_0, hxl]
    intro g4
    have fin : ∀ env E, X Try.prog (fin [ARes.tmp 6] (.bool true)) (.seq (.region q_law10_SlotmapBack_2) .ret) .done env E := by
      intro env E
      simp -implicitDefEqProofs [q_law10_SlotmapBack_2]
      refine w_law10_works.call .nil rfl ?_
      simp -implicitDefEqProofs [outOf]
    by_cases h1 : w.length < 1
    · have h1' : w = [] := List.length_eq_zero_iff.1 (by omega)
      simp -implicitDefEqProofs [q_law10_SlotmapBack_1, h1']
      exact fin _ _
    · have h1' : ¬ (w.length : Int) < 1 := by omega
      have h1w : ¬ w = [] := by rintro rfl; simp at h1
      by_cases h2 : 200 < w.length
      · have h2' : (200 : Int) < w.length := by omega
        simp -implicitDefEqProofs [q_law10_SlotmapBack_1, h1, h1', h1w, h2, h2']
        exact fin _ _
      · have h2' : ¬ (200 : Int) < w.length := by omega
        have h3 : 250 < n := by omega
        simp -implicitDefEqProofs [q_law10_SlotmapBack_1, h1, h1', h1w, h2, h2', h3]
        exact fin _ _
  have h1 : ¬ w.length < 1 := by omega
  have h1' : ¬ (w.length : Int) < 1 := by omega
  have h1w : ¬ w = [] := by rintro rfl; simp at h1
  have h2 : ¬ 200 < w.length := by omega
  have h2' : ¬ (200 : Int) < w.length := by omega
  have h3 : ¬ 250 < n := by omega
  simp -implicitDefEqProofs [a_law10_SlotmapBack, q_law10_SlotmapBack_0, hxl]
  intro g4
  simp -implicitDefEqProofs [q_law10_SlotmapBack_1, q_law10_SlotmapBack_3, h1, h1', h1w, h2, h2', h3]
  refine w_slotmap_New (fun hn => by omega) fun n1 n200 g gs B hm => ?_
  simp only [Int.toNat_natCast] at hm
  have b4 := hm.sub _ _ set_eq'
  simp -implicitDefEqProofs [q_law10_SlotmapBack_4, q_law10_SlotmapBack_6, q_law10_SlotmapBack_7]
  obtain ⟨D, hD⟩ : ∃ D : Heap, H0.set g4 (.var 54 [.iarr .u8 256 (ints x)]) = D := ⟨_, rfl⟩
  have d4 : D g4 = some (.var 54 [.iarr .u8 256 (ints x)]) := by rw [← hD]; simp
  rw [hD] at hm
  refine X_lp (fun (i : Nat) env E => i ≤ w.length ∧ (∃ B, MapAt D g gs (mdI w i) B ∧ SlS 3 .i64 (env 9) (ints ((md w).take i)) B E) ∧ env 0 = .isl .u8 (ints w) ∧ env 2 = .int .i64 n ∧ env 4 = .ptr g4 0 ∧ env 7 = .ptr g 0 ∧ env 10 = .int .i64 i) (fun i => w.length - i) 0
    ⟨by omega, ⟨B, by simpa [mdI] using hm, by simpa using SlS.nil (Sub_refl B)⟩, by simp, by simp, by simp, by simp, by simp⟩ ?_
  rintro i env E ⟨hi, ⟨B, hmB, hv⟩, e0, e2, e4, e7, e10⟩
  obtain ⟨v, e9⟩ : ∃ v, env 9 = v := ⟨_, rfl⟩
  rw [e9] at hv
  have hs := hv.scl
  by_cases hil : i < w.length
  · have hil' : (i : Int) < w.length := by omega
    have wi : IntKind.i64.wrap ((i : Int) + 1) = (i : Int) + 1 := wrap_i64 (by omega)
    have hb := hw _ (List.getElem_mem hil)
    have wb : IntKind.i64.wrap ((w[i] : Nat) : Int) = ((w[i] : Nat) : Int) := wrap_i64 (by omega)
    have t3 : ((w[i] : Nat) : Int).tmod 3 = ((w[i] % 3 : Nat) : Int) := by rw [Int.tmod_eq_emod_of_nonneg (by omega)]; omega
    obtain ⟨hset, hse⟩ := mdI_set w hil
    have hmd := md_get w i hil
    generalize hq : w[i] % 3 = q at *
    simp -implicitDefEqProofs [q_law10_SlotmapBack_L12, q_law10_SlotmapBack_8, q_law10_SlotmapBack_9, e0, e2, e7, e9, e10, hil, hil', wb, t3]
    refine w_Map_Set (hmB.mono hv.sub).m (mdI_slots w i).bytes ?_
    rw [hset, hse]
    have hml : (mdI w (i + 1)).length = (mdI w i).length := by rw [mdI_len w (by omega), mdI_len w (by omega)]
    have hv' : SlS 3 .i64 v (ints ((md w).take i)) (B.set gs (.irow T_uint8 .u8 (ints (mdI w (i + 1))))) (E.set gs (.irow T_uint8 .u8 (ints (mdI w (i + 1))))) := by
      rw [← set_same hmB.m.cs] at hv
      exact hv.reset
    have hm' := hmB.set hml
    generalize (B.set gs (.irow T_uint8 .u8 (ints (mdI w (i + 1))))) = B2 at *
    generalize (E.set gs (.irow T_uint8 .u8 (ints (mdI w (i + 1))))) = E2 at *
    simp -implicitDefEqProofs [q_law10_SlotmapBack_10, e0, e2, e7, e9, e10, hil, hil', wb, t3, hs.size, hs.shp, hs.agg, hs.good, hs.comps, hs.st]
    intro g9 h9
    refine hv'.appS (ys := [(q : Int)]) (sub_none h9) (srcI_row set_eq' rfl) (by simp; omega) fun v2 C2 hv2 hag2 => ?_
    simp -implicitDefEqProofs [q_law10_SlotmapBack_11, e10, wi]
    refine lp_next (i + 1) ⟨by omega, ⟨B2, hm', ?_⟩, by simp [e0], by simp [e2], by simp [e4], by simp [e7], by simp⟩ (by omega)
    rw [List.take_succ_eq_append_getElem (by simpa using hil), hmd]
    simpa [ints] using hv2
  · have hie : i = w.length := by omega
    subst hie
    have hmI : mdI w w.length = md w := by simp [mdI, List.take_of_length_le]
    rw [hmI] at hmB
    rw [List.take_of_length_le (by simp)] at hv
    obtain ⟨R, hR⟩ : ∃ R, md w = R := ⟨_, rfl⟩
    have hRs : Slots R := hR ▸ md_slots w
    have hRl : R.length = w.length := by rw [← hR]; simp
    rw [hR] at hmB hv
    have hRp : 0 < R.length := by omega
    simp -implicitDefEqProofs [q_law10_SlotmapBack_L12, q_law10_SlotmapBack_8, q_law10_SlotmapBack_12, e0, e2, e7, e10, -List.reduceReplicate]
    have hmE := hmB.mono hv.sub
    refine w_Map_Put hmE.m hRs (by omega) fun E2 s2 => ?_
    obtain ⟨S, hS⟩ : ∃ S, sealN (pk R) = S := ⟨_, rfl⟩
    have hSl : S.length = 256 := by rw [← hS]; exact sealN_len _
    have hSb : Bytes S := by rw [← hS]; exact sealN_bytes (pk_bytes hRs)
    have hSok : rdOK R.length S := by rw [← hS]; exact rdOK_seal hRs (by omega)
    have hSup : upkL S R.length = R := by rw [← hS]; exact upk_seal hRs (by omega)
    have hmE2 := hmE.mono s2
    have hv2 := hv.mono s2
    obtain ⟨xr, r1, r2, r3⟩ := hv2.pos (by simpa using hRp)
    rw [ints_length, hRl] at r1
    subst r1
    rw [hS]
    simp -implicitDefEqProofs [hSl, -List.reduceReplicate]
    intro g11 h11
    have hmE3 := hmE2.mono (sub_none (c := .var 54 [.iarr .u8 256 (ints S)]) h11)
    have r4 := (sub_none (c := .var 54 [.iarr .u8 256 (ints S)]) h11) _ _ r3
    have s11 : (E2.set g11 (.var 54 [.iarr .u8 256 (ints S)])) g11 = some (.var 54 [.iarr .u8 256 (ints S)]) := by simp
    generalize (E2.set g11 (.var 54 [.iarr .u8 256 (ints S)])) = E3 at *
    simp -implicitDefEqProofs [q_law10_SlotmapBack_13, e0, s11, hSl]
    refine w_slotmap_Read hSb hSl (fun h => by omega) (fun _ _ h => absurd (by simpa [← hRl] using hSok) h) fun _ _ _ gk gks E4 hk4 => ?_
    rw [Int.toNat_natCast, ← hRl, hSup] at hk4
    have r5 := hk4.sub _ _ r4
    have s12 := hk4.sub _ _ s11
    simp -implicitDefEqProofs [q_law10_SlotmapBack_14, e9, s12, hSl]
    refine (w_ref10_Put hRs (by omega)).call (.cons (vw_irow r5 (by simp [hRl])) rfl .nil) rfl ?_
    rw [hS]
    simp -implicitDefEqProofs [s12, eqI_ints hSl hSl, e9]
    refine w_law10_same hk4.m hRs.bytes (by omega) r5 hRl.symm fun E5 s5 => ?_
    have d5 : E5 g4 = some (.var 54 [.iarr .u8 256 (ints x)]) := s5 _ _ (hk4.sub _ _ (hmE3.sub _ _ d4))
    simp -implicitDefEqProofs [q_law10_SlotmapBack_16, e2, e4, d5, hxl]
    refine w_slotmap_Read hx hxl (fun hn E6 s6 => ?_) (fun n1 n2 hno E6 s6 => ?_) fun n1 n2 hok gy gys E6 hy => ?_
    · rcases hn with hn | hn
      · simp -implicitDefEqProofs [q_law10_SlotmapBack_17, q_law10_SlotmapBack_18, e2, hn]
        refine w_law10_works.call .nil rfl ?_
        simp -implicitDefEqProofs [outOf]
      · have hn' : ¬ n < 1 := by omega
        simp -implicitDefEqProofs [q_law10_SlotmapBack_17, q_law10_SlotmapBack_18, e2, hn, hn']
        refine w_law10_works.call .nil rfl ?_
        simp -implicitDefEqProofs [outOf]
    · have hn1 : ¬ n < 1 := by omega
      have hn2 : ¬ 200 < n := by omega
      simp -implicitDefEqProofs [q_law10_SlotmapBack_17, q_law10_SlotmapBack_19, q_law10_SlotmapBack_20, e2, hn1, hn2]
      refine w_law10_works.call .nil rfl ?_
      simp -implicitDefEqProofs [outOf]
    · have hn1 : ¬ n < 1 := by omega
      have hn2 : ¬ 200 < n := by omega
      have d6 := hy.sub _ _ d5
      obtain ⟨M, rfl⟩ : ∃ M : Nat, n = M := ⟨n.toNat, by omega⟩
      rw [Int.toNat_natCast] at hok hy
      simp -implicitDefEqProofs [q_law10_SlotmapBack_17, q_law10_SlotmapBack_19, q_law10_SlotmapBack_21, e2, hn1, hn2]
      refine w_Map_Len hy.m ?_
      simp -implicitDefEqProofs [upkL_len, e2, e4, d6, hxl]
      refine w_Map_Put hy.m hok.2.1 (by rw [upkL_len]; omega) fun E7 s7 => ?_
      rw [hok.2.2]
      have d7 := s7 _ _ d6
      simp -implicitDefEqProofs [e4, d6, d7, hxl, eqI_ints hxl hxl]
      refine w_law10_works.call .nil rfl ?_
      simp -implicitDefEqProofs [outOf]
end
end Go.Proofs.Ytfdckjliinpjiaa

/- The walk of SlotmapParts. -/
namespace Go.Proofs.Ytfdckjliinpjiaa
open Go AVL
attribute [-simp] AV.isAgg aappI aapp alen shp good comps
set_option linter.unusedVariables false
set_option linter.unusedSimpArgs false
set_option maxRecDepth 20000

section
variable {A B C : Heap} {K Kp : AV → Heap → Prop} {P : Program}
theorem idx_sum {R : List Nat} (hR : Slots R) : ∀ k, k ≤ R.length → (idx R 0 k).length + (idx R 1 k).length + (idx R 2 k).length = k
  | 0, _ => by simp [idx]
  | k + 1, h => by
    have ih := idx_sum hR k (by omega)
    have hk : k < R.length := h
    have hx := hR _ (List.getElem_mem hk)
    rcases (by omega : R[k] = 0 ∨ R[k] = 1 ∨ R[k] = 2) with e | e | e
    · rw [idx_yes hk (by simp [e]), idx_no hk (by simp [e]), idx_no hk (by simp [e])]; simp; omega
    · rw [idx_no hk (by simp [e]), idx_yes hk (by simp [e]), idx_no hk (by simp [e])]; simp; omega
    · rw [idx_no hk (by simp [e]), idx_no hk (by simp [e]), idx_yes hk (by simp [e])]; simp; omega
theorem idx_nil {R : List Nat} {what : Int} (h : ∀ x ∈ R, (x : Int) ≠ what) : ∀ k, k ≤ R.length → idx R what k = []
  | 0, _ => by simp [idx]
  | k + 1, hk => by rw [idx_no hk (h _ (List.getElem_mem hk))]; exact idx_nil h k (by omega)
theorem idx_cut {R : List Nat} {i : Nat} (h : i < R.length) (h0 : R[i] = 0) : ∃ r, idx R 0 R.length = idx R 0 i ++ i :: r := by
  obtain ⟨r, hr⟩ := idx_more R 0 (i + 1) (R.length - (i + 1))
  rw [show i + 1 + (R.length - (i + 1)) = R.length by omega, idx_yes h (by simp [h0])] at hr
  exact ⟨r, by rw [hr]; simp⟩
theorem took_iff {R : List Nat} {i N : Nat} (h : i < R.length) : i ∈ (idx R 0 R.length).take N ↔ (R[i] = 0 ∧ (idx R 0 i).length < N) := by
  constructor
  · intro hm
    have h0 : R[i] = 0 := by
      have := List.mem_of_mem_take hm
      simp [idx, List.getD_eq_getElem?_getD, h] at this
      exact this
    refine ⟨h0, ?_⟩
    obtain ⟨r, hr⟩ := idx_cut h h0
    rcases Nat.lt_or_ge (idx R 0 i).length N with hlt | hge
    · exact hlt
    · rw [hr, List.take_append_of_le_length hge] at hm
      exact absurd (idx_lt (List.mem_of_mem_take hm)) (Nat.lt_irrefl _)
  · rintro ⟨h0, hlt⟩
    obtain ⟨r, hr⟩ := idx_cut h h0
    rw [hr, List.take_append, List.mem_append]
    right
    obtain ⟨d, hd⟩ : ∃ d, N - (idx R 0 i).length = d + 1 := ⟨N - (idx R 0 i).length - 1, by omega⟩
    rw [hd]; simp
theorem took_at {R : List Nat} {i N : Nat} (h : i < R.length) (h0 : R[i] = 0) (hlt : (idx R 0 i).length < N) : ((idx R 0 R.length).take N)[(idx R 0 i).length]? = some i := by
  obtain ⟨r, hr⟩ := idx_cut h h0
  rw [hr, List.getElem?_take, if_pos hlt, List.getElem?_append_right (Nat.le_refl _), Nat.sub_self]; rfl
theorem tk_get (T : List Nat) : ∀ (l : List Nat) (i : Nat), i < l.length → (tk l T)[i]?.getD 0 = if i ∈ T then 1 else l[i]?.getD 0 := by
  induction T with
  | nil => intro l i h; simp [tk]
  | cons a r ih =>
    intro l i h
    show (tk (l.set a 1) r)[i]?.getD 0 = _
    rw [ih (l.set a 1) i (by simpa using h)]
    by_cases hr : i ∈ r
    · simp [hr]
    · rw [if_neg hr, List.getElem?_set]
      by_cases ha : a = i
      · subst ha; simp [h]
      · have : ¬ i = a := fun e => ha e.symm
        simp [ha, this, hr]
theorem w_SlotmapParts {w : List Nat} {n : Int} (hw : Bytes w) (hwl : w.length < 2 ^ 63) : Gives Try.prog F_law10_SlotmapParts [.isl .u8 (ints w), .int .i64 n] (.bool true) := by
  refine v_law10_SlotmapParts (by simp) ?_
  by_cases hg : w.length < 1 ∨ 200 < w.length
  · simp -implicitDefEqProofs [a_law10_SlotmapParts, q_law10_SlotmapParts_0]
    have fin : ∀ env E, X Try.prog (fin [ARes.tmp 4] (.bool true)) (.seq (.region q_law10_SlotmapParts_2) .ret) .done env E := by
      intro env E
      simp -implicitDefEqProofs [q_law10_SlotmapParts_2]
      refine w_law10_works.call .nil rfl ?_
      simp -implicitDefEqProofs [outOf]
    by_cases h1 : w.length < 1
    · have h1' : w = [] := List.length_eq_zero_iff.1 (by omega)
      simp -implicitDefEqProofs [q_law10_SlotmapParts_1, h1']
      exact fin _ _
    · have h1' : ¬ (w.length : Int) < 1 := by omega
      have h1w : ¬ w = [] := by rintro rfl; simp at h1
      have h2 : 200 < w.length := by omega
      have h2' : (200 : Int) < w.length := by omega
      simp -implicitDefEqProofs [q_law10_SlotmapParts_1, h1, h1', h1w, h2, h2']
      exact fin _ _
  have h1 : ¬ w.length < 1 := by omega
  have h1' : ¬ (w.length : Int) < 1 := by omega
  have h1w : ¬ w = [] := by rintro rfl; simp at h1
  have h2 : ¬ 200 < w.length := by omega
  have h2' : ¬ (200 : Int) < w.length := by omega
  simp -implicitDefEqProofs [a_law10_SlotmapParts, q_law10_SlotmapParts_0, q_law10_SlotmapParts_1, q_law10_SlotmapParts_3, h1, h1', h1w, h2, h2']
  refine w_slotmap_New (fun hn => by omega) fun n1 n200 g gs B hm => ?_
  simp only [Int.toNat_natCast] at hm
  simp -implicitDefEqProofs [q_law10_SlotmapParts_4, q_law10_SlotmapParts_6, q_law10_SlotmapParts_7]
  refine X_lp (fun (i : Nat) env E => i ≤ w.length ∧ (∃ B, MapAt H0 g gs (mdI w i) B ∧ SlS 3 .i64 (env 7) (ints ((md w).take i)) B E) ∧ env 0 = .isl .u8 (ints w) ∧ env 1 = .int .i64 n ∧ env 5 = .ptr g 0 ∧ env 8 = .int .i64 i) (fun i => w.length - i) 0
    ⟨by omega, ⟨B, by simpa [mdI] using hm, by simpa using SlS.nil (Sub_refl B)⟩, by simp, by simp, by simp, by simp⟩ ?_
  rintro i env E ⟨hi, ⟨B, hmB, hv⟩, e0, e2, e7, e10⟩
  obtain ⟨v, e9⟩ : ∃ v, env 7 = v := ⟨_, rfl⟩
  rw [e9] at hv
  have hs := hv.scl
  by_cases hil : i < w.length
  · have hil' : (i : Int) < w.length := by omega
    have wi : IntKind.i64.wrap ((i : Int) + 1) = (i : Int) + 1 := wrap_i64 (by omega)
    have hb := hw _ (List.getElem_mem hil)
    have wb : IntKind.i64.wrap ((w[i] : Nat) : Int) = ((w[i] : Nat) : Int) := wrap_i64 (by omega)
    have t3 : ((w[i] : Nat) : Int).tmod 3 = ((w[i] % 3 : Nat) : Int) := by rw [Int.tmod_eq_emod_of_nonneg (by omega)]; omega
    obtain ⟨hset, hse⟩ := mdI_set w hil
    have hmd := md_get w i hil
    generalize hq : w[i] % 3 = q at *
    simp -implicitDefEqProofs [q_law10_SlotmapParts_L12, q_law10_SlotmapParts_8, q_law10_SlotmapParts_9, e0, e2, e7, e9, e10, hil, hil', wb, t3]
    refine w_Map_Set (hmB.mono hv.sub).m (mdI_slots w i).bytes ?_
    rw [hset, hse]
    have hml : (mdI w (i + 1)).length = (mdI w i).length := by rw [mdI_len w (by omega), mdI_len w (by omega)]
    have hv' : SlS 3 .i64 v (ints ((md w).take i)) (B.set gs (.irow T_uint8 .u8 (ints (mdI w (i + 1))))) (E.set gs (.irow T_uint8 .u8 (ints (mdI w (i + 1))))) := by
      rw [← set_same hmB.m.cs] at hv
      exact hv.reset
    have hm' := hmB.set hml
    generalize (B.set gs (.irow T_uint8 .u8 (ints (mdI w (i + 1))))) = B2 at *
    generalize (E.set gs (.irow T_uint8 .u8 (ints (mdI w (i + 1))))) = E2 at *
    simp -implicitDefEqProofs [q_law10_SlotmapParts_10, e0, e2, e7, e9, e10, hil, hil', wb, t3, hs.size, hs.shp, hs.agg, hs.good, hs.comps, hs.st]
    intro g9 h9
    refine hv'.appS (ys := [(q : Int)]) (sub_none h9) (srcI_row set_eq' rfl) (by simp; omega) fun v2 C2 hv2 hag2 => ?_
    simp -implicitDefEqProofs [q_law10_SlotmapParts_11, e10, wi]
    refine lp_next (i + 1) ⟨by omega, ⟨B2, hm', ?_⟩, by simp [e0], by simp [e2], by simp [e7], by simp⟩ (by omega)
    rw [List.take_succ_eq_append_getElem (by simpa using hil), hmd]
    simpa [ints] using hv2
  · have hie : i = w.length := by omega
    subst hie
    have hmI : mdI w w.length = md w := by simp [mdI, List.take_of_length_le]
    rw [hmI] at hmB
    rw [List.take_of_length_le (by simp)] at hv
    obtain ⟨R, hR⟩ : ∃ R, md w = R := ⟨_, rfl⟩
    have hRs : Slots R := hR ▸ md_slots w
    have hRl : R.length = w.length := by rw [← hR]; simp
    rw [hR] at hmB hv
    have hRp : 0 < R.length := by omega
    have hmE := hmB.mono hv.sub
    obtain ⟨xr, r1, r2, r3⟩ := hv.pos (by simpa using hRp)
    rw [ints_length, hRl] at r1
    subst r1
    have hsum := idx_sum hRs R.length (Nat.le_refl _)
    have hi3 := idx_nil (R := R) (what := 3) (fun x hx => by have := hRs x hx; omega) R.length (Nat.le_refl _)
    have him := idx_nil (R := R) (what := -1) (fun x hx => by omega) R.length (Nat.le_refl _)
    have hfm : firstI R (-1) = -1 := by unfold firstI; rw [him]; rfl
    have hc0 := idx_len R 0 R.length
    have hc1 := idx_len R 1 R.length
    have hc2 := idx_len R 2 R.length
    have w1 : IntKind.i64.wrap (((idx R 0 R.length).length : Int) + ((idx R 1 R.length).length : Int)) = ((idx R 0 R.length).length : Int) + ((idx R 1 R.length).length : Int) := wrap_i64 (by omega)
    have w2 : IntKind.i64.wrap (((idx R 0 R.length).length : Int) + ((idx R 1 R.length).length : Int) + ((idx R 2 R.length).length : Int)) = w.length := by rw [wrap_i64 (by omega)]; omega
    simp -implicitDefEqProofs [q_law10_SlotmapParts_L12, q_law10_SlotmapParts_8, q_law10_SlotmapParts_12, e0, e2, e7, e10]
    refine w_Map_Count hmE.m hRs.bytes (by omega) fun E1 s1 => ?_
    simp -implicitDefEqProofs [e7]
    refine w_Map_Count (hmE.mono s1).m hRs.bytes (by omega) fun E2 s2 => ?_
    simp -implicitDefEqProofs [e7, w1]
    refine w_Map_Count ((hmE.mono s1).mono s2).m hRs.bytes (by omega) fun E3 s3 => ?_
    have hm3 := ((hmE.mono s1).mono s2).mono s3
    have r6 := s3 _ _ (s2 _ _ (s1 _ _ r3))
    simp -implicitDefEqProofs [e0, e7, w2]
    refine w_Map_Count hm3.m hRs.bytes (by omega) fun E4 s4 => ?_
    rw [hi3]
    have hm4 := hm3.mono s4
    simp -implicitDefEqProofs [e0, e7]
    refine w_Map_First hm4.m hRs.bytes (by omega) fun E5 s5 => ?_
    rw [hfm]
    have hm5 := hm4.mono s5
    have r7 := s5 _ _ (s4 _ _ r6)
    simp -implicitDefEqProofs [q_law10_SlotmapParts_14, e0, e2, e7]
    refine w_Map_Take hm5.m hRs.bytes (by omega) (fun hn E6 s6 => ?_) (fun hn0 hn E6 s6 => ?_) fun hn0 hn vt E6 k6 hvt => ?_
    · simp -implicitDefEqProofs [q_law10_SlotmapParts_15, q_law10_SlotmapParts_16, e0, e2, e7, e9]
      refine w_law10_same (hm5.mono s6).m hRs.bytes (by omega) (s6 _ _ r7) hRl.symm fun E7 s7 => ?_
      simp -implicitDefEqProofs
      refine w_law10_works.call .nil rfl ?_
      simp -implicitDefEqProofs [outOf]
    · simp -implicitDefEqProofs [q_law10_SlotmapParts_15, q_law10_SlotmapParts_16, e0, e2, e7, e9]
      refine w_law10_same (hm5.mono s6).m hRs.bytes (by omega) (s6 _ _ r7) hRl.symm fun E7 s7 => ?_
      simp -implicitDefEqProofs
      refine w_law10_works.call .nil rfl ?_
      simp -implicitDefEqProofs [outOf]
    · obtain ⟨N, rfl⟩ : ∃ N : Nat, n = N := ⟨n.toNat, by omega⟩
      rw [Int.toNat_natCast] at k6 hvt
      have hN : N ≤ (idx R 0 R.length).length := by omega
      obtain ⟨T, hT⟩ : ∃ T, (idx R 0 R.length).take N = T := ⟨_, rfl⟩
      have hTl : T.length = N := by rw [← hT]; simp; omega
      rw [hT] at k6 hvt
      have hm6 := hm5.took (l' := tk R T) (tk_len _ _) k6 hvt.sub
      have nrs : xr ≠ gs := by rintro rfl; rw [hm5.m.cs] at r7; cases r7
      have r8 : E6 xr = some (.irow 3 .i64 (ints R)) := hvt.sub _ _ (by rw [del_app, if_neg nrs]; exact r7)
      have hst := hvt.scl
      simp -implicitDefEqProofs [q_law10_SlotmapParts_15, q_law10_SlotmapParts_17, q_law10_SlotmapParts_18, e0, e2, e7, e9]
      refine X_lp (fun (i : Nat) env E => i ≤ w.length ∧ E6 = E ∧ env 1 = .int .i64 N ∧ env 5 = .ptr g 0 ∧ env 7 = .own xr 0 w.length ∧ env 9 = vt ∧ env 11 = .int .i64 (min (idx R 0 i).length N : Nat) ∧ env 12 = .int .i64 i) (fun i => w.length - i) 0
        ⟨by omega, rfl, by simp [e2], by simp [e7], by simp [e9], by simp, by simp [idx], by simp⟩ ?_
      rintro i env E ⟨hi, rfl, e1, e5, e7, e9, e11, e12⟩
      by_cases hil : i < w.length
      · have hil' : (i : Int) < w.length := by omega
        have hiR : i < R.length := by omega
        have hiR' : (i : Int) < R.length := by omega
        have wi : IntKind.i64.wrap ((i : Int) + 1) = (i : Int) + 1 := wrap_i64 (by omega)
        have hgv : getV (tk R T) i = ((tk R T)[i]?.getD 0 : Nat) := by unfold getV; rw [tk_len, if_pos (by omega)]; simp
        have htk := tk_get T R i hiR
        have hRi : R[i]?.getD 0 = R[i] := by rw [List.getElem?_eq_getElem hiR]; rfl
        have hti := took_iff (N := N) hiR
        rw [hT] at hti
        have hRz : ¬ ((R[i] : Nat) : Int) = 0 ↔ ¬ R[i] = 0 := by omega
        by_cases h0 : R[i] = 0
        · by_cases hk : (idx R 0 i).length < N
          · have hmem := hti.2 ⟨h0, hk⟩
            rw [if_pos hmem] at htk
            rw [htk] at hgv
            have hat := took_at hiR h0 hk
            rw [hT] at hat
            have hkl : (idx R 0 i).length < T.length := by omega
            have hTk : T[(idx R 0 i).length] = i := by rw [List.getElem?_eq_getElem hkl] at hat; injection hat
            have hyes := idx_yes (what := 0) hiR (by omega)
            have hmin : min (idx R 0 i).length N = (idx R 0 i).length := by omega
            have hmin2 : min (idx R 0 (i + 1)).length N = (idx R 0 i).length + 1 := by rw [hyes]; simp; omega
            rw [hmin] at e11
            generalize (idx R 0 i).length = k at *
            have hk' : (k : Int) < N := by omega
            have wk : IntKind.i64.wrap ((k : Int) + 1) = (k : Int) + 1 := wrap_i64 (by omega)
            obtain ⟨y, y1, y2, y3⟩ := hvt.pos (by simp; omega)
            rw [ints_length, hTl] at y1
            simp -implicitDefEqProofs [q_law10_SlotmapParts_L28, q_law10_SlotmapParts_19, q_law10_SlotmapParts_20, q_law10_SlotmapParts_21, q_law10_SlotmapParts_23, q_law10_SlotmapParts_24, e1, e5, e7, e9, e11, e12, hil, hil', r8, hiR, hRl, h0, y1, y3, hk, hk', hkl, hTk, wk, q_law10_SlotmapParts_25]
            refine w_Map_Get hm6.m (tk_slots T hRs).bytes ?_
            rw [hgv]
            simp -implicitDefEqProofs [q_law10_SlotmapParts_27, e1, e5, e7, e9, e11, e12, wi]
            exact lp_next (i + 1) ⟨by omega, rfl, by simp [e1], by simp [e5], by simp [e7], by simp [e9, y1], by simp [hmin2], by simp⟩ (by omega)
          · have hmem : ¬ i ∈ T := fun h => hk (hti.1 h).2
            rw [if_neg hmem, hRi] at htk
            rw [htk] at hgv
            have hyes := idx_yes (what := 0) hiR (by omega)
            have hmin : min (idx R 0 i).length N = N := by omega
            have hmin2 : min (idx R 0 (i + 1)).length N = N := by rw [hyes]; simp; omega
            rw [hmin] at e11
            simp -implicitDefEqProofs [q_law10_SlotmapParts_L28, q_law10_SlotmapParts_19, q_law10_SlotmapParts_20, q_law10_SlotmapParts_21, q_law10_SlotmapParts_23, e1, e5, e7, e9, e11, e12, hil, hil', r8, hiR, hRl, h0, hvt.len, hTl, hst.size, hst.shp, hst.agg, hst.good, hst.comps, hst.st, q_law10_SlotmapParts_25]
            refine w_Map_Get hm6.m (tk_slots T hRs).bytes ?_
            rw [hgv]
            simp -implicitDefEqProofs [q_law10_SlotmapParts_27, e1, e5, e7, e9, e11, e12, wi, h0]
            exact lp_next (i + 1) ⟨by omega, rfl, by simp [e1], by simp [e5], by simp [e7], by simp [e9], by simp [e11, hmin2], by simp⟩ (by omega)
        · have hmem : ¬ i ∈ T := fun h => h0 (hti.1 h).1
          rw [if_neg hmem, hRi] at htk
          rw [htk] at hgv
          have hno := idx_no (what := 0) hiR (by omega)
          have h0' := hRz.2 h0
          simp -implicitDefEqProofs [q_law10_SlotmapParts_L28, q_law10_SlotmapParts_19, q_law10_SlotmapParts_20, q_law10_SlotmapParts_21, q_law10_SlotmapParts_23, e1, e5, e7, e9, e11, e12, hil, hil', r8, hiR, hRl, h0, h0', hvt.len, hTl, hst.size, hst.shp, hst.agg, hst.good, hst.comps, hst.st, q_law10_SlotmapParts_25]
          refine w_Map_Get hm6.m (tk_slots T hRs).bytes ?_
          rw [hgv]
          simp -implicitDefEqProofs [q_law10_SlotmapParts_27, e1, e5, e7, e9, e11, e12, wi, h0]
          exact lp_next (i + 1) ⟨by omega, rfl, by simp [e1], by simp [e5], by simp [e7], by simp [e9], by simp [e11, hno], by simp⟩ (by omega)
      · have hie : i = w.length := by omega
        subst hie
        have hmin : min (idx R 0 w.length).length N = N := by rw [← hRl]; omega
        rw [hmin] at e11
        simp -implicitDefEqProofs [q_law10_SlotmapParts_L28, q_law10_SlotmapParts_19, q_law10_SlotmapParts_28, e1, e5, e7, e9, e11, e12, hvt.len, hTl, hst.size, hst.shp, hst.agg, hst.good, hst.comps, hst.st]
        refine w_law10_works.call .nil rfl ?_
        simp -implicitDefEqProofs [outOf]
end
end Go.Proofs.Ytfdckjliinpjiaa
