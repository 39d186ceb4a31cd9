/- The walks of where an address is looked for. -/
import Derived.Test.YtjbiekcldkjgjaaDp
namespace Go.Proofs.Ytjbiekcldkjgjaa
open Go AVL
set_option linter.unusedVariables false
set_option linter.unusedSimpArgs false
set_option maxRecDepth 8000

def homN : List Nat → Nat := List.foldl (fun n c => 256 * n + c) 0
theorem homN_succ {l : List Nat} {i : Nat} (h : i < l.length) : homN (l.take (i + 1)) = 256 * homN (l.take i) + l[i] := by
  rw [List.take_succ_eq_append_getElem h, homN, List.foldl_append]; rfl
theorem homN_lt {l : List Nat} (hb : byts l) : ∀ i, i ≤ l.length → homN (l.take i) < 256 ^ i
  | 0, _ => by simp [homN]
  | i + 1, h => by
    have h1 := homN_lt hb i (by omega)
    have h2 := hb _ (List.getElem_mem (show i < l.length by omega))
    rw [homN_succ (by omega), Nat.pow_succ]; omega
theorem homN_lt6 {l : List Nat} (hb : byts l) (i : Nat) (h : i ≤ l.length) (h6 : i ≤ 6) : homN (l.take i) < 281474976710656 := by
  have h1 := homN_lt hb i h
  have : 256 ^ i ≤ 256 ^ 6 := Nat.pow_le_pow_right (by decide) h6
  omega
def homV (l : List Nat) (o : Int) : Int := if o < 1 then 0 else (homN (l.take 6) : Int).tmod o
theorem shl8 {n m : Nat} (h : n < 281474976710656) (hm : 256 * n = m) : shlI .u64 (n : Int) 8 = (m : Int) := by
  simp only [shlI]
  have : (2 : Int) ^ min (Int.toNat 8) IntKind.u64.bits = 256 := by decide
  rw [this, wrap_u64 (by omega)]; omega
theorem shl8_or (n b : Nat) (hb : b < 256) : n * 256 ||| b = b + 256 * n := by
  have := Nat.two_pow_add_eq_or_of_lt (i := 8) (b := b) (by omega) n
  rw [Nat.mul_comm n 256]; simp only [show (2 : Nat) ^ 8 = 256 from rfl] at this; omega
theorem or8 {n m c s : Nat} (h : n < 281474976710656) (hm : 256 * n = m) (hc : c < 256) (hs : 256 * n + c = s) : bOr .u64 (m : Int) (c : Int) = (s : Int) := by
  rw [bOr_nat rfl (show m < 2 ^ 64 by omega) (show c < 2 ^ 64 by omega)]
  have := shl8_or n c hc
  rw [Nat.mul_comm n 256, hm] at this
  rw [this]; omega
theorem w_ref03_Home {l : List Nat} (hb : byts l) (h32 : l.length = 32) {o : Int} (h1 : -9223372036854775808 ≤ o) (h2 : o ≤ 9223372036854775807) : Gives Try.prog F_ref03_Home [.iarr .u8 32 (ints l), .int .i64 o] (.int .i64 (homV l o)) := by
  refine v_ref03_Home (by simp) ?_
  by_cases ho : o < 1
  · simp -implicitDefEqProofs [a_ref03_Home, q_ref03_Home_0, q_ref03_Home_1, q_ref03_Home_2, h32, ho, homV]
  · simp -implicitDefEqProofs [a_ref03_Home, q_ref03_Home_0, q_ref03_Home_1, q_ref03_Home_3, q_ref03_Home_4, h32, ho]
    intro g
    refine X_lp (fun (i : Nat) env B => i ≤ 6 ∧ env 1 = .int .i64 o ∧ env 2 = .ptr g 0 ∧ env 5 = .int .u64 (homN (l.take i)) ∧ env 6 = .int .i64 i ∧ B g = some (.var 39 [.iarr .u8 32 (ints l)])) (fun i => 6 - i) 0
      ⟨by omega, by simp, by simp, by simp [homN], by simp, by simp⟩ ?_
    rintro i env B ⟨hi, e1, e2, e5, e6, fg⟩
    have hlt := homN_lt6 hb i (by omega) (by omega)
    by_cases hi6 : i < 6
    · have c6 : (i : Int) < 6 := by omega
      have c32 : (i : Int) < 32 := by omega
      have hil : i < l.length := by omega
      obtain ⟨c, hc⟩ : ∃ c, l[i] = c := ⟨_, rfl⟩
      have hcb : c < 256 := hc ▸ hb _ (List.getElem_mem hil)
      have hgd : l[i]?.getD 0 = c := by rw [List.getElem?_eq_getElem hil, ← hc]; rfl
      have hs := homN_succ hil
      rw [hc] at hs
      obtain ⟨n, hn⟩ : ∃ n, homN (l.take i) = n := ⟨_, rfl⟩
      rw [hn] at hs e5 hlt
      have w1 : IntKind.u64.wrap ((n : Int) * 256) = (n : Int) * 256 := wrap_u64 (by omega)
      have w2 : IntKind.u64.wrap (c : Int) = (c : Int) := wrap_u64 (by omega)
      have w3 : IntKind.u64.wrap ((n : Int) * 256 + c) = ((256 * n + c : Nat) : Int) := by rw [wrap_u64 (by omega)]; omega
      have wi : IntKind.i64.wrap ((i : Int) + 1) = (i : Int) + 1 := wrap_i64 (by omega)
      obtain ⟨s, hss⟩ : ∃ s, 256 * n + c = s := ⟨_, rfl⟩
      rw [hss] at hs w3
      simp -implicitDefEqProofs [q_ref03_Home_L8, q_ref03_Home_5, q_ref03_Home_6, q_ref03_Home_7, e1, e2, e5, e6, fg, c6, c32, h32, hgd, w1, w2, w3, wi]
      refine lp_next (i + 1) ⟨by omega, by simp [e1], by simp [e2], by simp [hs], by simp, by simp [fg]⟩ (by omega)
    · have hie : i = 6 := by omega
      subst hie
      obtain ⟨n, hn⟩ : ∃ n, homN (l.take 6) = n := ⟨_, rfl⟩
      rw [hn] at e5 hlt
      have w1 : IntKind.u64.wrap o = o := wrap_u64 (by omega)
      have hm : (n : Int).tmod o = (n : Int) % o := Int.tmod_eq_emod_of_nonneg (by omega)
      have hm1 := Int.emod_nonneg (n : Int) (show o ≠ 0 by omega)
      have hm2 := Int.emod_lt_of_pos (n : Int) (show 0 < o by omega)
      obtain ⟨r, hr⟩ : ∃ r, (n : Int) % o = r := ⟨_, rfl⟩
      rw [hr] at hm hm1 hm2
      have w2 : IntKind.i64.wrap r = r := wrap_i64 (by omega)
      have o0 : ¬ o = 0 := by omega
      simp -implicitDefEqProofs [q_ref03_Home_L8, q_ref03_Home_5, q_ref03_Home_8, e1, e5, e6, w1, w2, hm, hn, o0, ho, homV]
theorem w_digest_Home {l : List Nat} (hb : byts l) (h32 : l.length = 32) {o : Int} (h1 : -9223372036854775808 ≤ o) (h2 : o ≤ 9223372036854775807) : Gives Try.prog F_digest_Home [.iarr .u8 32 (ints l), .int .i64 o] (.int .i64 (homV l o)) := by
  refine v_digest_Home (by simp) ?_
  by_cases ho : o < 1
  · simp -implicitDefEqProofs [a_digest_Home, q_digest_Home_0, q_digest_Home_1, q_digest_Home_2, h32, ho, homV]
  · simp -implicitDefEqProofs [a_digest_Home, q_digest_Home_0, q_digest_Home_1, q_digest_Home_3, q_digest_Home_4, h32, ho]
    intro g
    refine X_lp (fun (i : Nat) env B => i ≤ 6 ∧ env 1 = .int .i64 o ∧ env 10 = .asl g 0 32 0 6 ∧ env 11 = .int .i64 6 ∧ env 5 = .int .u64 (homN (l.take i)) ∧ env 12 = .int .i64 i ∧ B g = some (.var 39 [.iarr .u8 32 (ints l)])) (fun i => 6 - i) 0
      ⟨by omega, by simp, by simp, by simp, by simp [homN], by simp, by simp⟩ ?_
    rintro i env B ⟨hi, e1, e10, e11, e5, e12, fg⟩
    have hlt := homN_lt6 hb i (by omega) (by omega)
    by_cases hi6 : i < 6
    · have c6 : (i : Int) < 6 := by omega
      have c32 : (i : Int) < 32 := by omega
      have hil : i < l.length := by omega
      obtain ⟨c, hc⟩ : ∃ c, l[i] = c := ⟨_, rfl⟩
      have hcb : c < 256 := hc ▸ hb _ (List.getElem_mem hil)
      have hgd : l[i]?.getD 0 = c := by rw [List.getElem?_eq_getElem hil, ← hc]; rfl
      have hs := homN_succ hil
      rw [hc] at hs
      obtain ⟨n, hn⟩ : ∃ n, homN (l.take i) = n := ⟨_, rfl⟩
      rw [hn] at hs e5 hlt
      obtain ⟨m, hm⟩ : ∃ m, 256 * n = m := ⟨_, rfl⟩
      have w1 := shl8 hlt hm
      have w2 : IntKind.u64.wrap (c : Int) = (c : Int) := wrap_u64 (by omega)
      obtain ⟨s, hss⟩ : ∃ s, 256 * n + c = s := ⟨_, rfl⟩
      have w3 := or8 hlt hm hcb hss
      have wi : IntKind.i64.wrap ((i : Int) + 1) = (i : Int) + 1 := wrap_i64 (by omega)
      rw [hss] at hs
      simp -implicitDefEqProofs [q_digest_Home_L9, q_digest_Home_5, q_digest_Home_6, q_digest_Home_7, q_digest_Home_8, e1, e10, e11, e5, e12, fg, c6, c32, h32, hgd, w1, w2, w3, wi]
      refine lp_next (i + 1) ⟨by omega, by simp [e1], by simp [e10], by simp [e11], by simp [hs], by simp, by simp [fg]⟩ (by omega)
    · have hie : i = 6 := by omega
      subst hie
      obtain ⟨n, hn⟩ : ∃ n, homN (l.take 6) = n := ⟨_, rfl⟩
      rw [hn] at e5 hlt
      have w1 : IntKind.u64.wrap o = o := wrap_u64 (by omega)
      have hm : (n : Int).tmod o = (n : Int) % o := Int.tmod_eq_emod_of_nonneg (by omega)
      have hm1 := Int.emod_nonneg (n : Int) (show o ≠ 0 by omega)
      have hm2 := Int.emod_lt_of_pos (n : Int) (show 0 < o by omega)
      obtain ⟨r, hr⟩ : ∃ r, (n : Int) % o = r := ⟨_, rfl⟩
      rw [hr] at hm hm1 hm2
      have w2 : IntKind.i64.wrap r = r := wrap_i64 (by omega)
      have o0 : ¬ o = 0 := by omega
      simp -implicitDefEqProofs [q_digest_Home_L9, q_digest_Home_5, q_digest_Home_9, e1, e5, e11, e12, w1, w2, hm, hn, o0, ho, homV]
end Go.Proofs.Ytjbiekcldkjgjaa
