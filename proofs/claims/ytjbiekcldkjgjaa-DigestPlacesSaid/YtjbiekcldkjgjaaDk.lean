/- The walks of the reference's padded and Sum. -/
import Derived.Test.YtjbiekcldkjgjaaDg
namespace Go.Proofs.Ytjbiekcldkjgjaa
open Go AVL
attribute [-simp] AV.isAgg aappI aapp alen
set_option linter.unusedVariables false
set_option linter.unusedSimpArgs false
set_option maxRecDepth 8000

theorem byts_take {l : List Nat} (h : byts l) (n : Nat) : byts (l.take n) := fun x hx => h x (List.mem_of_mem_take hx)
theorem byts_drop {l : List Nat} (h : byts l) (n : Nat) : byts (l.drop n) := fun x hx => h x (List.mem_of_mem_drop hx)
theorem byts_append {a b : List Nat} (ha : byts a) (hb : byts b) : byts (a ++ b) := fun x hx => (List.mem_append.1 hx).elim (ha x) (hb x)
@[simp] theorem be8_length (n : Nat) : (be8 n).length = 8 := by simp [be8]
theorem be8_get (n i : Nat) (h : i < (be8 n).length) : (be8 n)[i] = n / 256 ^ (7 - i) % 256 := by simp [be8]
theorem be8_byts (n : Nat) : byts (be8 n) := by
  intro x hx
  simp only [be8, List.mem_map] at hx
  obtain ⟨i, _, rfl⟩ := hx
  exact Nat.mod_lt _ (by decide)
theorem padT_byts {l : List Nat} (h : byts l) : byts (padT l) := by
  refine byts_append (byts_append (byts_append h ?_) ?_) (be8_byts _)
  · intro x hx; simp at hx; omega
  · intro x hx; rw [List.eq_of_mem_replicate hx]; decide
/-- One byte of a number. -/
theorem byte_of {n m : Nat} (hm : 8 * m ≤ 64) {k : Int} (hk : k = (8 * m : Nat)) : IntKind.u8.wrap (shrI .u64 (n : Int) k) = ((n / 256 ^ m % 256 : Nat) : Int) := by
  subst hk
  rw [shrI_nat, show min (8 * m) IntKind.u64.bits = 8 * m from Nat.min_eq_left (by show 8 * m ≤ 64; omega), Nat.pow_mul, wrap_u8m]
  exact (Int.natCast_emod (n / (2 ^ 8) ^ m) 256).symm
/-- Part of the padding. -/
def padP (l : List Nat) (j : Nat) : List Nat := l ++ [128] ++ List.replicate j 0
def padQ (l : List Nat) (n i : Nat) : List Nat := padP l (zeros n) ++ (be8 (8 * n)).take i
@[simp] theorem padP_length (l : List Nat) (j : Nat) : (padP l j).length = l.length + 1 + j := by simp [padP]; omega
theorem padP_succ (l : List Nat) (j : Nat) : padP l (j + 1) = padP l j ++ [0] := by simp [padP, List.replicate_succ']
theorem padQ_length (l : List Nat) (n i : Nat) (hi : i ≤ 8) : (padQ l n i).length = l.length + 1 + zeros n + i := by simp [padQ]; omega
theorem padQ_succ (l : List Nat) (n i : Nat) (hi : i < 8) : padQ l n (i + 1) = padQ l n i ++ [8 * n / 256 ^ (7 - i) % 256] := by
  have h : i < (be8 (8 * n)).length := by simpa using hi
  rw [padQ, List.take_succ_eq_append_getElem h, be8_get, ← List.append_assoc]; rfl
theorem padQ_full (l : List Nat) (n : Nat) : padQ l n 8 = l ++ [128] ++ List.replicate (zeros n) 0 ++ be8 (8 * n) := by
  rw [padQ, List.take_of_length_le (by simp)]; rfl
theorem w_ref03_padded {b : List Nat} (hl : b.length ≤ 100000) : MakesS Try.prog F_ref03_padded [.isl .u8 (ints b)] T_uint8 .u8 (ints (padT b)) := by
  refine i_ref03_padded (by simp) fun R hR => ?_
  simp -implicitDefEqProofs [a_ref03_padded, q_ref03_padded_0, q_ref03_padded_1, q_ref03_padded_2]
  refine (SlS.nil (e := T_uint8) (k := .u8) (Sub_refl _)).appO (ys := ints b) (Sub_refl _) (fun Q hQ => ⟨rfl, hQ⟩) (by simp; omega) fun g A1 h1 => ?_
  simp only [List.nil_append, ints_length] at h1
  simp -implicitDefEqProofs [q_ref03_padded_3]
  intro g2 hg2
  refine h1.appO (bytes := 1) (ys := [(128 : Int)]) (sub_none hg2) ?_ (by simp; omega) fun g3 A3 h3 => ?_
  · intro Q hQ; simpa [srcI] using hQ
  have hz : zeros b.length < 64 := Nat.mod_lt _ (by decide)
  have hone : ints b ++ [(128 : Int)] = ints (padP b 0) := by simp [ints, padP]
  rw [hone] at h3 ⊢
  rw [ints_length] at h3 ⊢
  simp -implicitDefEqProofs
  refine X_lp (fun (j : Nat) env B => j ≤ zeros b.length ∧ env 0 = .isl .u8 (ints b) ∧ ∃ g, env 3 = .own g 0 (b.length + 1 + j) ∧ SlS T_uint8 .u8 (.own g 0 (b.length + 1 + j)) (ints (padP b j)) H0 B) (fun j => zeros b.length - j) 0
    ⟨by omega, by simp, g3, by simp, by simpa using h3⟩ ?_
  rintro j env B ⟨hj, e0, gj, e3, hv⟩
  have hmod : ((b.length : Int) + 1 + j).tmod 64 = (((b.length + 1 + j) % 64 : Nat) : Int) := by rw [Int.tmod_eq_emod_of_nonneg (by omega)]; omega
  have hex : (b.length + 1 + j) % 64 = 56 ↔ j = zeros b.length := by unfold zeros at hj ⊢; omega
  have wl : (IntKind.i64.wrap ((b.length : Int) + 1 + j)) = (b.length : Int) + 1 + j := wrap_i64 (by omega)
  by_cases hjz : j = zeros b.length
  · have hm56 : (b.length + 1 + j) % 64 = 56 := hex.2 hjz
    rw [hm56] at hmod
    have w1 : IntKind.u64.wrap (b.length : Int) = (b.length : Int) := wrap_u64 (by omega)
    have w2 : IntKind.u64.wrap ((b.length : Int) * 8) = ((8 * b.length : Nat) : Int) := by rw [wrap_u64 (by omega)]; omega
    obtain ⟨m, hm⟩ : ∃ m, 8 * b.length = m := ⟨_, rfl⟩
    rw [hm] at w2
    simp -implicitDefEqProofs [q_ref03_padded_L6, q_ref03_padded_4, q_ref03_padded_6, q_ref03_padded_7, e0, e3, hmod, w1, w2]
    subst hjz
    have hq0 : padP b (zeros b.length) = padQ b b.length 0 := by simp [padQ]
    rw [hq0] at hv
    refine X_lp (fun (i : Nat) env B => i ≤ 8 ∧ env 4 = .int .u64 m ∧ env 5 = .int .i64 i ∧ ∃ g, env 3 = .own g 0 (b.length + 1 + zeros b.length + i) ∧ SlS T_uint8 .u8 (.own g 0 (b.length + 1 + zeros b.length + i)) (ints (padQ b b.length i)) H0 B) (fun i => 8 - i) 0
      ⟨by omega, by simp, by simp, gj, by simp [e3], hv⟩ ?_
    rintro i env B ⟨hi, e4, e5, gi, e3, hv⟩
    simp -implicitDefEqProofs [q_ref03_padded_L11, q_ref03_padded_8, q_ref03_padded_11, e3, e4, e5]
    refine ⟨fun hil => ?_, fun hil => ?_⟩
    · have w3 : IntKind.i64.wrap (8 * (i : Int)) = 8 * (i : Int) := wrap_i64 (by omega)
      have w4 : IntKind.i64.wrap (56 - 8 * (i : Int)) = 56 - 8 * (i : Int) := wrap_i64 (by omega)
      have w5 : IntKind.u64.wrap (56 - 8 * (i : Int)) = ((8 * (7 - i) : Nat) : Int) := by rw [wrap_u64 (by omega)]; omega
      have w6 := byte_of (n := m) (m := 7 - i) (by omega) (k := ((8 * (7 - i) : Nat) : Int)) rfl
      obtain ⟨sh, hsh⟩ : ∃ s, 8 * (7 - i) = s := ⟨_, rfl⟩
      obtain ⟨y, hy⟩ : ∃ y, m / 256 ^ (7 - i) % 256 = y := ⟨_, rfl⟩
      rw [hsh] at w5 w6; rw [hy] at w6
      have wi : IntKind.i64.wrap ((i : Int) + 1) = (i : Int) + 1 := wrap_i64 (by omega)
      have hlq := padQ_length b b.length i (by omega)
      have hsq := padQ_succ b b.length i (by omega)
      rw [hm, hy] at hsq
      simp -implicitDefEqProofs [q_ref03_padded_9, q_ref03_padded_10, e3, e4, e5, w3, w4, w5, w6]
      intro g5 hg5
      refine hv.appO (bytes := 1) (ys := [(y : Int)]) (sub_none hg5) ?_ (by simp [hlq]; omega) fun g6 A6 h6 => ?_
      · intro Q hQ; simpa [srcI] using hQ
      have hap : ints (padQ b b.length i) ++ [(y : Int)] = ints (padQ b b.length (i + 1)) := by rw [hsq]; simp [ints]
      rw [hap, ints_length, padQ_length b b.length (i + 1) (by omega)] at h6 ⊢
      simp -implicitDefEqProofs [e5, wi]
      exact lp_next (i + 1) ⟨by omega, by simp [e4], by simp, g6, by simp, h6⟩ (by omega)
    · have hie : i = 8 := by omega
      subst hie
      refine hR _ _ _ ?_
      rw [padQ_full] at hv
      have := hv.fin
      simpa -implicitDefEqProofs [fpost, a_ref03_padded, outOf, padT, padQ_length, hz] using this
  · have hm56 : ¬ (b.length + 1 + j) % 64 = 56 := fun e => hjz (hex.1 e)
    obtain ⟨md, hmd⟩ : ∃ m, (b.length + 1 + j) % 64 = m := ⟨_, rfl⟩
    rw [hmd] at hmod hm56
    have hm' : ¬ (md : Int) = 56 := by omega
    simp -implicitDefEqProofs [q_ref03_padded_L6, q_ref03_padded_4, q_ref03_padded_5, e0, e3, hmod, hm']
    intro g5 hg5
    refine hv.appO (bytes := 1) (ys := [(0 : Int)]) (sub_none hg5) ?_ (by simp; omega) fun g6 A6 h6 => ?_
    · intro Q hQ; simpa [srcI] using hQ
    have hap : ints (padP b j) ++ [(0 : Int)] = ints (padP b (j + 1)) := by rw [padP_succ]; simp [ints]
    rw [hap, ints_length, padP_length] at h6 ⊢
    simp -implicitDefEqProofs
    exact lp_next (j + 1) ⟨by omega, by simp [e0], g6, by simp, h6⟩ (by omega)
end Go.Proofs.Ytjbiekcldkjgjaa
