/- The walk of CrcTurns. -/
import Derived.Test.YtgbplcelcjffdaaCf
namespace Go.Proofs.Ytgbplcelcjffdaa
open Go AVL
set_option linter.unusedVariables false
set_option linter.unusedSimpArgs false

theorem w6 (l : List Nat) (c m : Nat) (hl : Bytes l) (hc : c < 65536) (hm : m < 4294967296) : SimX Try.prog 6 [.isl .u8 (ints l), .int .u16 c, .int .u32 m] H0 (fun o _ => o = .ret (.bool true)) := by
  refine X_intro g6 c6 (by rw [Try.ntmps6]; simp) fun R hR => ?_
  have works : ∀ env A, X Try.prog R (.seq (.region q6_2) .ret) .done env A := by
    intro env A
    simp -implicitDefEqProofs [q6_2]
    refine w13.call .nil rfl ?_
    simp -implicitDefEqProofs
    exact hR _ _ _ (by simp [a6, fpost]; exact ⟨H0, H0_sub _⟩)
  by_cases hbig : 300 < l.length ∨ m = 0
  · by_cases h1 : 300 < (l.length : Int)
    · simp -implicitDefEqProofs [a6, q6_0, q6_1, h1]
      exact works _ _
    · have h2 : m = 0 := by omega
      subst h2
      simp -implicitDefEqProofs [a6, q6_0, q6_1, h1]
      exact works _ _
  · have h1 : ¬ (300 < (l.length : Int)) := by omega
    have h2 : ¬ (m = 0) := by omega
    simp -implicitDefEqProofs [a6, q6_0, q6_1, h1, h2, q6_3]
    refine (w17 l hl (by omega)).call (.cons (.refl _) rfl .nil) rfl ?_
    intro g _
    obtain ⟨L, hL⟩ : ∃ L, L = l.length + 4 := ⟨_, rfl⟩
    obtain ⟨s0, hs0⟩ : ∃ s0, s0 = l ++ fourN (moreN 0 l) := ⟨_, rfl⟩
    rw [← hL, ← hs0]
    have hL4 : 4 ≤ L := by omega
    have hLs : L ≤ 304 := by omega
    have hs0L : s0.length = L := by subst hs0; rw [List.length_append, hL]; rfl
    have hs0B : Bytes s0 := by
      subst hs0
      intro x hx
      rcases List.mem_append.1 hx with h | h
      · exact hl x h
      · exact bytes_four _ x h
    have hs0H : holdsN s0 = true := by subst hs0; exact holds_sealed l
    clear hs0
    have h3 : ¬ ((L : Int) < 4) := by omega
    have e1 : IntKind.i64.wrap (8 * (L : Int)) = 8 * (L : Int) := wrap_i64 (by omega)
    have e2 : IntKind.i64.wrap (8 * (L : Int) - 31) = ((8 * L - 31 : Nat) : Int) := by rw [wrap_i64 (by omega)]; omega
    have e3 : IntKind.i64.wrap (c : Int) = c := wrap_i64 (by omega)
    have e4 : (c : Int).tmod ((8 * L - 31 : Nat) : Int) = ((c % (8 * L - 31) : Nat) : Int) := rfl
    have e5 : (((8 * L - 31 : Nat) : Int) = 0) = False := by simp; omega
    simp -implicitDefEqProofs [q6_4, h3, q6_6, e1, e2, e3, e4, e5, q6_7, -Int.natCast_emod, -Int.natCast_add, -Int.natCast_mul, -Int.natCast_eq_zero]
    obtain ⟨n, hn⟩ : ∃ n, n = c % (8 * L - 31) := ⟨_, rfl⟩
    rw [← hn]
    have hnL : n + 32 ≤ 8 * L := by have := Nat.mod_lt c (show 0 < 8 * L - 31 by omega); omega
    refine X_loop (fun (s : Nat × List Nat) env A => s.1 ≤ 32 ∧ Bytes s.2 ∧ s.2.length = L ∧ reg 4294967295 s.2 = reg 4294967295 s0 ^^^ steps (8 * L - n) (m % 2 ^ s.1) ∧ env 2 = .int .u32 m ∧ env 7 = .own g 0 L ∧ env 8 = .int .i64 n ∧ env 9 = .int .i64 s.1 ∧ A = H0.set g (.irow 5 .u8 (ints s.2)))
      (fun s => 32 - s.1) (0, s0) ⟨by simp, hs0B, hs0L, by simp [Nat.mod_one, show ∀ n, steps n 0 = 0 from fun n => by induction n with | zero => rfl | succ n ih => exact ih], by simp, by simp, by simp, by simp, rfl⟩ ?_
    rintro R' ⟨k, s⟩ env A ⟨i1, i2, i3, i4, i5, i6, i7, i8, rfl⟩ hN hE
    simp only at i1 i2 i3 i4 i8
    simp -implicitDefEqProofs [q6_L13, q6_8, i8, i5, i6, i7]
    refine ⟨fun hk => ?_, fun hk => ?_⟩
    · have k1 : IntKind.u64.wrap (k : Int) = k := wrap_u64 (by omega)
      have k2 : shrI .u32 (m : Int) (k : Int) = ((m / 2 ^ k : Nat) : Int) := by rw [shrI_nat]; congr 3; simp [IntKind.bits]; omega
      have k3 : bAnd .u32 ((m / 2 ^ k : Nat) : Int) 1 = ((m / 2 ^ k % 2 : Nat) : Int) := by
        have := bAnd_nat (k := .u32) rfl (a := m / 2 ^ k) (by have := Nat.div_le_self m (2 ^ k); simp [IntKind.bits]; omega) (b := 1) (by decide)
        rw [Nat.and_one_is_mod] at this; exact this
      simp -implicitDefEqProofs [q6_9, i5, i8, k1, k2, k3, -Int.natCast_emod, -Int.natCast_ediv, -Int.natCast_pow]
      have k4 : IntKind.i64.wrap ((k : Int) + 1) = ((k + 1 : Nat) : Int) := by rw [wrap_i64 (by omega)]; simp
      have hst := mask_step m k
      refine ⟨fun hb => ?_, fun hb => ?_⟩
      · have hb' : m / 2 ^ k % 2 = 1 := by omega
        rw [if_pos hb'] at hst
        obtain ⟨x, hx⟩ : ∃ x, x = n + k := ⟨_, rfl⟩
        have hxL : x < 8 * L := by omega
        have f1 : IntKind.i64.wrap ((n : Int) + (k : Int)) = (x : Int) := by rw [wrap_i64 (by omega)]; omega
        have f2 : (x : Int).tdiv 8 = ((x / 8 : Nat) : Int) := rfl
        have f3 : (x : Int).tmod 8 = ((x % 8 : Nat) : Int) := rfl
        have f4 : IntKind.i64.wrap ((x / 8 : Nat) : Int) = ((x / 8 : Nat) : Int) := wrap_i64 (by omega)
        have f5 : IntKind.u64.wrap ((x % 8 : Nat) : Int) = ((x % 8 : Nat) : Int) := wrap_u64 (by omega)
        have hp : 2 ^ (x % 8) < 256 := by
          have : 2 ^ (x % 8) ≤ 2 ^ 7 := Nat.pow_le_pow_right (by decide) (by omega)
          omega
        have f6 : shlI .u8 1 ((x % 8 : Nat) : Int) = ((2 ^ (x % 8) : Nat) : Int) := by
          have hm : min (x % 8) IntKind.u8.bits = x % 8 := by simp [IntKind.bits]; omega
          unfold shlI
          rw [Int.toNat_natCast, hm, Int.one_mul]
          have : ((2 : Int) ^ (x % 8)) = ((2 ^ (x % 8) : Nat) : Int) := by norm_cast
          rw [this]
          exact wrap_u8 ⟨Int.natCast_nonneg _, Int.ofNat_lt.2 hp⟩
        have hlt : x / 8 < s.length := by omega
        have hv : s[x / 8] < 256 := i2 _ (List.getElem_mem hlt)
        have hg : s[x / 8]?.getD 0 = s[x / 8] := by rw [List.getElem?_eq_getElem hlt]; rfl
        have f7 : bXor .u8 ((s[x / 8] : Nat) : Int) ((2 ^ (x % 8) : Nat) : Int) = ((s[x / 8] ^^^ 2 ^ (x % 8) : Nat) : Int) := bXor_nat rfl (by simpa [IntKind.bits] using hv) (by simpa [IntKind.bits] using hp)
        have f8 : ((x / 8 : Nat) : Int) < (L : Int) := by omega
        have f9 : x / 8 < L := by omega
        have f10 : (0 : Int) ≤ ((x / 8 : Nat) : Int) := by omega
        have f11 : (0 : Int) ≤ ((x % 8 : Nat) : Int) := by omega
        simp -implicitDefEqProofs [q6_10, q6_11, q6_12, i5, i6, i7, i8, i3, f1, f2, f3, f4, f5, f6, f7, f8, f9, f10, f11, k4, -Int.natCast_emod, -Int.natCast_ediv, -Int.natCast_pow, -Int.natCast_add]
        have hfl := reg_flip 4294967295 s x (by omega)
        rw [hg] at hfl
        refine hN (k + 1, s.set (x / 8) (s[x / 8] ^^^ 2 ^ (x % 8))) _ _ ⟨by simp only; omega, ?_, by simp [i3], ?_, by simp [i5], by simp [i6], by simp [i7], by simp, rfl⟩ (by simp only; omega)
        · intro y hy
          rcases List.mem_or_eq_of_mem_set hy with h | h
          · exact i2 y h
          · subst h; exact Nat.xor_lt_two_pow (n := 8) hv hp
        · simp only
          rw [hfl, i4, hst, steps_xor, Nat.xor_assoc]
          congr 2
          have e : steps (8 * L - n) (2 ^ k) = steps (k + (8 * L - x)) (2 ^ k) := by congr 1; omega
          have p := steps_pow k 1
          rw [Nat.mul_one] at p
          rw [e, steps_add, p, i3]
      · have hb' : ¬ (m / 2 ^ k % 2 = 1) := by omega
        rw [if_neg hb'] at hst
        simp -implicitDefEqProofs [q6_12, i8, k4, -Int.natCast_add]
        refine hN (k + 1, s) _ _ ⟨by simp only; omega, i2, i3, by simp only; rw [hst]; exact i4, by simp [i5], by simp [i6], by simp [i7], by simp, rfl⟩ (by simp only; omega)
    · have hk2 : k = 32 := by omega
      subst hk2
      have hmm : m % 2 ^ 32 = m := Nat.mod_eq_of_lt (by omega)
      rw [hmm] at i4
      have hno : holdsN s = false := burst hs0B i2 hs0H h2 hm i4
      refine hE _ _ _ (by simp) ?_
      simp -implicitDefEqProofs [q6_13, i6]
      have hsp := w19 s i2 (by omega)
      rw [hno] at hsp
      refine hsp.call (.cons (by
        have := Vw.own (A := H0.set g (.irow 5 .u8 (ints s))) (i := 0) (n := L) set_eq' (by simp [i3])
        rwa [List.drop_zero, List.take_of_length_le (by simp [i3])] at this) rfl .nil) rfl ?_
      simp -implicitDefEqProofs
      refine w13.call .nil rfl ?_
      simp -implicitDefEqProofs
      exact hR _ _ _ (by simp [a6, fpost]; exact ⟨H0, H0_sub _⟩)
end Go.Proofs.Ytgbplcelcjffdaa
