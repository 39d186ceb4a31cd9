/- A round's words, as either side makes them. -/
import Derived.Test.YtjbiekcldkjgjaaDc
namespace Go.Proofs.Ytjbiekcldkjgjaa
open Go AVL
set_option linter.unusedVariables false
set_option linter.unusedSimpArgs false
set_option maxRecDepth 4000

theorem not_nat {e : Nat} (he : e < W32) : 4294967295 ^^^ e = 4294967295 - e := by
  have h1 : (BitVec.ofNat 32 e ^^^ BitVec.allOnes 32).toNat = (~~~ BitVec.ofNat 32 e).toNat := by rw [BitVec.xor_allOnes]
  rw [BitVec.toNat_xor, BitVec.toNat_not, BitVec.toNat_allOnes, BitVec.toNat_ofNat, Nat.mod_eq_of_lt he] at h1
  rw [Nat.xor_comm]
  exact h1
theorem Sg1_of {x : Nat} (hx : x < W32) : bXor .u32 (bXor .u32 ((rot x 6 : Nat) : Int) ((rot x 11 : Nat) : Int)) ((rot x 25 : Nat) : Int) = ((Sg1 x : Nat) : Int) := by
  rw [bXor_nat rfl (bits32 (rot_lt 6 hx)) (bits32 (rot_lt 11 hx)), bXor_nat rfl (Nat.xor_lt_two_pow (bits32 (rot_lt 6 hx)) (bits32 (rot_lt 11 hx))) (bits32 (rot_lt 25 hx))]
  rfl
theorem Sg0_of {x : Nat} (hx : x < W32) : bXor .u32 (bXor .u32 ((rot x 2 : Nat) : Int) ((rot x 13 : Nat) : Int)) ((rot x 22 : Nat) : Int) = ((Sg0 x : Nat) : Int) := by
  rw [bXor_nat rfl (bits32 (rot_lt 2 hx)) (bits32 (rot_lt 13 hx)), bXor_nat rfl (Nat.xor_lt_two_pow (bits32 (rot_lt 2 hx)) (bits32 (rot_lt 13 hx))) (bits32 (rot_lt 22 hx))]
  rfl
theorem ch_of {e f g : Nat} (he : e < W32) (hf : f < W32) (hg : g < W32) : bXor .u32 (bAnd .u32 (e : Int) (f : Int)) (bAnd .u32 ((4294967295 - e : Nat) : Int) (g : Int)) = ((chf e f g : Nat) : Int) := by
  have hn : 4294967295 - e < 4294967296 := by omega
  rw [bAnd_nat rfl (bits32 he) (bits32 hf), bAnd_nat rfl (bits32 hn) (bits32 hg), bXor_nat rfl (Nat.and_lt_two_pow _ (bits32 hf)) (Nat.and_lt_two_pow _ (bits32 hg))]
  rfl
theorem not_of {e : Nat} (he : e < W32) : bXor .u32 4294967295 (e : Int) = ((4294967295 - e : Nat) : Int) := by
  have := bXor_nat (k := .u32) rfl (bits32 (show 4294967295 < 4294967296 by decide)) (bits32 he)
  rw [not_nat he] at this
  exact this
theorem maj_of {a b c : Nat} (ha : a < W32) (hb : b < W32) (hc : c < W32) : bXor .u32 (bXor .u32 (bAnd .u32 (a : Int) (b : Int)) (bAnd .u32 (a : Int) (c : Int))) (bAnd .u32 (b : Int) (c : Int)) = ((maj a b c : Nat) : Int) := by
  rw [bAnd_nat rfl (bits32 ha) (bits32 hb), bAnd_nat rfl (bits32 ha) (bits32 hc), bAnd_nat rfl (bits32 hb) (bits32 hc), bXor_nat rfl (Nat.and_lt_two_pow _ (bits32 hb)) (Nat.and_lt_two_pow _ (bits32 hc)),
    bXor_nat rfl (Nat.xor_lt_two_pow (Nat.and_lt_two_pow _ (bits32 hb)) (Nat.and_lt_two_pow _ (bits32 hc))) (Nat.and_lt_two_pow _ (bits32 hc))]
  rfl
theorem add5_of (a b c d e : Nat) : IntKind.u32.wrap (IntKind.u32.wrap (IntKind.u32.wrap (IntKind.u32.wrap ((a : Int) + (b : Int)) + (c : Int)) + (d : Int)) + (e : Int)) = (((a + b + c + d + e) % W32 : Nat) : Int) := by
  rw [wrap_u32m, wrap_u32m, wrap_u32m, wrap_u32m]
  show _ = (((a + b + c + d + e) % 4294967296 : Nat) : Int)
  omega
theorem add2_of (a b : Nat) : IntKind.u32.wrap ((a : Int) + (b : Int)) = (((a + b) % W32 : Nat) : Int) := by
  rw [wrap_u32m]
  show _ = (((a + b) % 4294967296 : Nat) : Int)
  omega
theorem rnd_words {v : List Nat} (k w : Nat) (hv : Words v) : Words (rnd v k w) := by
  have g := words_getD hv
  intro x hx
  simp only [rnd, List.mem_cons, List.not_mem_nil, or_false] at hx
  rcases hx with rfl | rfl | rfl | rfl | rfl | rfl | rfl | rfl <;> first | exact Nat.mod_lt _ (by decide) | exact g _
@[simp] theorem rnd_length (v : List Nat) (k w : Nat) : (rnd v k w).length = 8 := rfl
theorem rndN_words {v w : List Nat} (hv : Words v) : ∀ i, Words (rndN v w i)
  | 0 => hv
  | i + 1 => rnd_words _ _ (rndN_words hv i)
theorem rndN_length {v w : List Nat} (hv : v.length = 8) : ∀ i, (rndN v w i).length = 8
  | 0 => hv
  | i + 1 => rfl
theorem eight {l : List Nat} (h : l.length = 8) : ∃ a b c d e f g i, l = [a, b, c, d, e, f, g, i] := by
  match l, h with
  | [a, b, c, d, e, f, g, i], _ => exact ⟨a, b, c, d, e, f, g, i, rfl⟩
theorem K64_words : Words K64 := by unfold Words; decide +kernel
theorem K64_length : K64.length = 64 := by decide +kernel
theorem mixB_words (s b : List Nat) : Words (mixB s b) := by
  intro x hx
  simp only [mixB, sumW, List.mem_map, List.mem_range] at hx
  obtain ⟨i, _, rfl⟩ := hx
  exact Nat.mod_lt _ (by decide)
@[simp] theorem mixB_length (s b : List Nat) : (mixB s b).length = 8 := by simp [mixB, sumW]
theorem mixAll_words : ∀ (n : Nat) {s : List Nat} (b : List Nat), Words s → Words (mixAll s n b)
  | 0, s, b, h => h
  | n + 1, s, b, h => mixAll_words n _ (mixB_words _ _)
theorem mixAll_length : ∀ (n : Nat) {s : List Nat} (b : List Nat), s.length = 8 → (mixAll s n b).length = 8
  | 0, s, b, h => h
  | n + 1, s, b, h => mixAll_length n _ (mixB_length _ _)
theorem H256_words : Words H256 := by unfold Words; decide
end Go.Proofs.Ytjbiekcldkjgjaa
