import Derived.Test.YtjbiekcldkjgjaaVu
/- The digest, plainly: words, rounds, blocks, padding; that it does not matter how the bytes come. -/
namespace Go.Proofs.Ytjbiekcldkjgjaa
open Go AVL
set_option linter.unusedVariables false
set_option linter.unusedSimpArgs false

abbrev W32 : Nat := 4294967296
def rot (x n : Nat) : Nat := x / 2 ^ n ||| x * 2 ^ (32 - n) % W32
def sg0 (x : Nat) : Nat := rot x 7 ^^^ rot x 18 ^^^ x / 8
def sg1 (x : Nat) : Nat := rot x 17 ^^^ rot x 19 ^^^ x / 1024
def Sg0 (x : Nat) : Nat := rot x 2 ^^^ rot x 13 ^^^ rot x 22
def Sg1 (x : Nat) : Nat := rot x 6 ^^^ rot x 11 ^^^ rot x 25
def chf (e f g : Nat) : Nat := (e &&& f) ^^^ ((W32 - 1 - e) &&& g)
def maj (a b c : Nat) : Nat := (a &&& b) ^^^ (a &&& c) ^^^ (b &&& c)
def Words (l : List Nat) : Prop := ∀ x ∈ l, x < W32
theorem rot_lt {x : Nat} (n : Nat) (hx : x < W32) : rot x n < W32 :=
  Nat.or_lt_two_pow (n := 32) (Nat.lt_of_le_of_lt (Nat.div_le_self _ _) hx) (Nat.mod_lt _ (by decide))
theorem sg0_lt {x : Nat} (hx : x < W32) : sg0 x < W32 :=
  Nat.xor_lt_two_pow (n := 32) (Nat.xor_lt_two_pow (n := 32) (rot_lt _ hx) (rot_lt _ hx)) (Nat.lt_of_le_of_lt (Nat.div_le_self _ _) hx)
theorem sg1_lt {x : Nat} (hx : x < W32) : sg1 x < W32 :=
  Nat.xor_lt_two_pow (n := 32) (Nat.xor_lt_two_pow (n := 32) (rot_lt _ hx) (rot_lt _ hx)) (Nat.lt_of_le_of_lt (Nat.div_le_self _ _) hx)
theorem Sg0_lt {x : Nat} (hx : x < W32) : Sg0 x < W32 :=
  Nat.xor_lt_two_pow (n := 32) (Nat.xor_lt_two_pow (n := 32) (rot_lt _ hx) (rot_lt _ hx)) (rot_lt _ hx)
theorem Sg1_lt {x : Nat} (hx : x < W32) : Sg1 x < W32 :=
  Nat.xor_lt_two_pow (n := 32) (Nat.xor_lt_two_pow (n := 32) (rot_lt _ hx) (rot_lt _ hx)) (rot_lt _ hx)
theorem chf_lt {e f g : Nat} (hf : f < W32) (hg : g < W32) : chf e f g < W32 :=
  Nat.xor_lt_two_pow (n := 32) (Nat.and_lt_two_pow _ hf) (Nat.and_lt_two_pow _ hg)
theorem maj_lt {a b c : Nat} (hb : b < W32) (hc : c < W32) : maj a b c < W32 :=
  Nat.xor_lt_two_pow (n := 32) (Nat.xor_lt_two_pow (n := 32) (Nat.and_lt_two_pow _ hb) (Nat.and_lt_two_pow _ hc)) (Nat.and_lt_two_pow _ hc)

/-- A block's words. -/
def word4 (b : List Nat) (i : Nat) : Nat := (b.getD (4 * i) 0 * 16777216 + b.getD (4 * i + 1) 0 * 65536 + b.getD (4 * i + 2) 0 * 256 + b.getD (4 * i + 3) 0)
def first16 (b : List Nat) : List Nat := (List.range 16).map (word4 b)
def nextW (w : List Nat) (i : Nat) : Nat := (w.getD i 0 + sg0 (w.getD (i + 1) 0) + w.getD (i + 9) 0 + sg1 (w.getD (i + 14) 0)) % W32
def wsN (b : List Nat) : Nat → List Nat
  | 0 => first16 b
  | i + 1 => wsN b i ++ [nextW (wsN b i) i]
@[simp] theorem wsN_length (b : List Nat) : ∀ i, (wsN b i).length = 16 + i
  | 0 => by simp [wsN, first16]
  | i + 1 => by simp [wsN, wsN_length b i]; omega
/-- One round. -/
def rnd (v : List Nat) (k w : Nat) : List Nat :=
  let t := (v.getD 7 0 + Sg1 (v.getD 4 0) + chf (v.getD 4 0) (v.getD 5 0) (v.getD 6 0) + k + w) % W32
  let u := (Sg0 (v.getD 0 0) + maj (v.getD 0 0) (v.getD 1 0) (v.getD 2 0)) % W32
  [(t + u) % W32, v.getD 0 0, v.getD 1 0, v.getD 2 0, (v.getD 3 0 + t) % W32, v.getD 4 0, v.getD 5 0, v.getD 6 0]
def K64 : List Nat := [
  0x428a2f98, 0x71374491, 0xb5c0fbcf, 0xe9b5dba5, 0x3956c25b, 0x59f111f1, 0x923f82a4, 0xab1c5ed5,
  0xd807aa98, 0x12835b01, 0x243185be, 0x550c7dc3, 0x72be5d74, 0x80deb1fe, 0x9bdc06a7, 0xc19bf174,
  0xe49b69c1, 0xefbe4786, 0x0fc19dc6, 0x240ca1cc, 0x2de92c6f, 0x4a7484aa, 0x5cb0a9dc, 0x76f988da,
  0x983e5152, 0xa831c66d, 0xb00327c8, 0xbf597fc7, 0xc6e00bf3, 0xd5a79147, 0x06ca6351, 0x14292967,
  0x27b70a85, 0x2e1b2138, 0x4d2c6dfc, 0x53380d13, 0x650a7354, 0x766a0abb, 0x81c2c92e, 0x92722c85,
  0xa2bfe8a1, 0xa81a664b, 0xc24b8b70, 0xc76c51a3, 0xd192e819, 0xd6990624, 0xf40e3585, 0x106aa070,
  0x19a4c116, 0x1e376c08, 0x2748774c, 0x34b0bcb5, 0x391c0cb3, 0x4ed8aa4a, 0x5b9cca4f, 0x682e6ff3,
  0x748f82ee, 0x78a5636f, 0x84c87814, 0x8cc70208, 0x90befffa, 0xa4506ceb, 0xbef9a3f7, 0xc67178f2]
def rndN (v w : List Nat) : Nat → List Nat
  | 0 => v
  | i + 1 => rnd (rndN v w i) (K64.getD i 0) (w.getD i 0)
def sumW (s v : List Nat) : List Nat := (List.range 8).map fun i => (s.getD i 0 + v.getD i 0) % W32
/-- The words behind a block. -/
def mixB (s b : List Nat) : List Nat := sumW s (rndN s (wsN b 48) 64)
def H256 : List Nat := [0x6a09e667, 0xbb67ae85, 0x3c6ef372, 0xa54ff53a, 0x510e527f, 0x9b05688c, 0x1f83d9ab, 0x5be0cd19]
/-- Whole blocks, one behind the other. -/
def mixAll (s : List Nat) : Nat → List Nat → List Nat
  | 0, _ => s
  | n + 1, b => mixAll (mixB s (b.take 64)) n (b.drop 64)
theorem mixAll_add : ∀ (n m : Nat) (s b : List Nat), mixAll s (n + m) b = mixAll (mixAll s n b) m (b.drop (64 * n))
  | 0, m, s, b => by simp [mixAll]
  | n + 1, m, s, b => by
    rw [show n + 1 + m = (n + m) + 1 by omega]
    simp only [mixAll]
    rw [mixAll_add n m, List.drop_drop]
    congr 2; omega
theorem mixAll_take : ∀ (n : Nat) (s b c : List Nat), 64 * n ≤ b.length → mixAll s n (b ++ c) = mixAll s n b
  | 0, s, b, c, h => rfl
  | n + 1, s, b, c, h => by
    simp only [mixAll]
    rw [List.take_append_of_le_length (by omega), List.drop_append_of_le_length (by omega)]
    exact mixAll_take n _ _ c (by simp; omega)
/-- A number's bytes, the highest first. -/
def be8 (n : Nat) : List Nat := (List.range 8).map fun i => n / 256 ^ (7 - i) % 256
/-- How many noughts come behind so many bytes and one. -/
def zeros (n : Nat) : Nat := (119 - n % 64) % 64
def padT (l : List Nat) : List Nat := l ++ [128] ++ List.replicate (zeros l.length) 0 ++ be8 (8 * l.length)
theorem padT_length (l : List Nat) : (padT l).length = 64 * ((l.length + 72) / 64) := by
  simp only [padT, List.length_append, List.length_replicate, be8, List.length_map, List.length_range, List.length_cons, List.length_nil, zeros]
  omega
def outB (s : List Nat) : List Nat := (List.range 32).map fun i => s.getD (i / 4) 0 / 2 ^ (24 - 8 * (i % 4)) % 256
def dig (l : List Nat) : List Nat := outB (mixAll H256 ((l.length + 72) / 64) (padT l))
/-- What a sum that grows has of bytes: the words behind the whole blocks, and the rest. -/
def stW (l : List Nat) : List Nat := mixAll H256 (l.length / 64) l
def stR (l : List Nat) : List Nat := l.drop (64 * (l.length / 64))
theorem stR_length (l : List Nat) : (stR l).length = l.length % 64 := by simp [stR]; omega
theorem st_split (l : List Nat) : l.take (64 * (l.length / 64)) ++ stR l = l := List.take_append_drop _ _
/-- The words behind bytes that come to a rest. -/
theorem stW_add (l b : List Nat) : stW (l ++ b) = mixAll (stW l) ((stR l ++ b).length / 64) (stR l ++ b) := by
  have hl := stR_length l
  have e : (l ++ b).length / 64 = l.length / 64 + (stR l ++ b).length / 64 := by
    simp only [List.length_append, hl]; omega
  rw [stW, e, mixAll_add, mixAll_take _ _ _ _ (by omega), List.drop_append_of_le_length (by omega)]
  rfl
theorem stR_add (l b : List Nat) : stR (l ++ b) = (stR l ++ b).drop (64 * ((stR l ++ b).length / 64)) := by
  have hl := stR_length l
  have e : 64 * ((l ++ b).length / 64) = 64 * (l.length / 64) + 64 * ((stR l ++ b).length / 64) := by
    simp only [List.length_append, hl]; omega
  rw [stR, e, ← List.drop_drop, List.drop_append_of_le_length (by omega)]
  rfl
/-- The end of a sum: what is padded is the rest. -/
theorem dig_st (l : List Nat) : dig l = outB (mixAll (stW l) ((stR l).length / 64 + ((stR l ++ [128] ++ List.replicate (zeros l.length) 0 ++ be8 (8 * l.length)).length / 64)) (stR l ++ [128] ++ List.replicate (zeros l.length) 0 ++ be8 (8 * l.length))) := by
  have hl := stR_length l
  have hz : (stR l).length / 64 = 0 := by rw [hl]; omega
  rw [hz, Nat.zero_add]
  obtain ⟨e, he⟩ : ∃ e, e = [128] ++ List.replicate (zeros l.length) 0 ++ be8 (8 * l.length) := ⟨_, rfl⟩
  have hp : padT l = l ++ e := by rw [padT, he]; simp
  have hq : stR l ++ [128] ++ List.replicate (zeros l.length) 0 ++ be8 (8 * l.length) = stR l ++ e := by rw [he]; simp
  rw [hq, dig, hp]
  have hL : (l ++ e).length = 64 * ((l.length + 72) / 64) := by rw [← hp]; exact padT_length l
  have e2 : (l.length + 72) / 64 = l.length / 64 + (stR l ++ e).length / 64 := by
    simp only [List.length_append, hl] at hL ⊢; omega
  rw [e2, mixAll_add, mixAll_take _ _ _ _ (by omega), List.drop_append_of_le_length (by omega)]
  rfl
end Go.Proofs.Ytjbiekcldkjgjaa

/- Digits of sixteen, plainly: there and back; which is ahead. -/
namespace Go.Proofs.Ytjbiekcldkjgjaa
open Go AVL
set_option linter.unusedVariables false
set_option linter.unusedSimpArgs false

def hx (n : Nat) : Nat := if n < 10 then 48 + n else 87 + n
def hexL : List Nat → List Nat
  | [] => []
  | c :: r => hx (c / 16) :: hx (c % 16) :: hexL r
def unhx (c : Nat) : Option Nat := if 48 ≤ c ∧ c ≤ 57 then some (c - 48) else if 97 ≤ c ∧ c ≤ 102 then some (c - 87) else none
theorem unhx_hx {n : Nat} (h : n < 16) : unhx (hx n) = some n := by
  unfold hx unhx
  split
  · rw [if_pos (by omega)]; congr 1; omega
  · rw [if_neg (by omega), if_pos (by omega)]; congr 1; omega
theorem hx_unhx {c n : Nat} (h : unhx c = some n) : hx n = c ∧ n < 16 := by
  unfold unhx at h
  unfold hx
  split at h
  · injection h with h; subst h; rw [if_pos (by omega)]; omega
  · split at h
    · injection h with h; subst h; rw [if_neg (by omega)]; omega
    · cases h
@[simp] theorem hexL_length : ∀ l, (hexL l).length = 2 * l.length
  | [] => rfl
  | c :: r => by simp [hexL, hexL_length r]; omega
def byts (l : List Nat) : Prop := ∀ x ∈ l, x < 256
def parL : List Nat → Option (List Nat)
  | [] => some []
  | [_] => none
  | x :: y :: r => match unhx x, unhx y, parL r with
    | some a, some b, some l => some ((16 * a + b) :: l)
    | _, _, _ => none
theorem parL_hexL : ∀ {l : List Nat}, byts l → parL (hexL l) = some l
  | [], _ => rfl
  | c :: r, h => by
    have hc := h c (by simp)
    simp only [hexL, parL, unhx_hx (show c / 16 < 16 by omega), unhx_hx (show c % 16 < 16 by omega), parL_hexL (l := r) (fun z hz => h z (by simp [hz]))]
    congr 2; omega
theorem hexL_parL : ∀ {s l : List Nat}, parL s = some l → hexL l = s ∧ byts l
  | [], l, h => by simp only [parL] at h; injection h with h; subst h; exact ⟨rfl, by simp [byts]⟩
  | [_], l, h => by simp [parL] at h
  | x :: y :: r, l, h => by
    simp only [parL] at h
    split at h
    · rename_i a b l' h1 h2 h3
      injection h with h; subst h
      obtain ⟨e1, l1⟩ := hx_unhx h1
      obtain ⟨e2, l2⟩ := hx_unhx h2
      obtain ⟨e3, l3⟩ := hexL_parL h3
      refine ⟨?_, fun z hz => ?_⟩
      · rw [hexL, show (16 * a + b) / 16 = a by omega, show (16 * a + b) % 16 = b by omega, e1, e2, e3]
      · rcases List.mem_cons.1 hz with rfl | hz
        · omega
        · exact l3 z hz
    · cases h
theorem parL_none : ∀ {s : List Nat} (k : Nat), s.length = 2 * k → parL s = none → ∃ i, i < s.length ∧ unhx (s.getD i 0) = none
  | [], k, hk, h => by simp [parL] at h
  | [_], k, hk, h => by simp at hk; omega
  | x :: y :: r, k, hk, h => by
    simp only [parL] at h
    cases h1 : unhx x with
    | none => exact ⟨0, by simp, by simpa using h1⟩
    | some a =>
      cases h2 : unhx y with
      | none => exact ⟨1, by simp, by simpa using h2⟩
      | some b =>
        cases h3 : parL r with
        | none =>
          obtain ⟨i, hi, he⟩ := parL_none (k - 1) (by simp at hk; omega) h3
          exact ⟨i + 2, by simp; omega, by simpa using he⟩
        | some l => rw [h1, h2, h3] at h; simp at h
theorem parL_some : ∀ {s l : List Nat}, parL s = some l → s.length = 2 * l.length ∧ ∀ i, i < s.length → ∃ n, unhx (s.getD i 0) = some n ∧ n < 16
  | [], l, h => by simp only [parL] at h; injection h with h; subst h; exact ⟨rfl, by simp⟩
  | [_], l, h => by simp [parL] at h
  | x :: y :: r, l, h => by
    simp only [parL] at h
    split at h
    · rename_i a b l' h1 h2 h3
      injection h with h; subst h
      obtain ⟨e1, e2⟩ := parL_some h3
      refine ⟨by simp; omega, fun i hi => ?_⟩
      match i with
      | 0 => exact ⟨a, by simpa using h1, (hx_unhx h1).2⟩
      | 1 => exact ⟨b, by simpa using h2, (hx_unhx h2).2⟩
      | i + 2 =>
        obtain ⟨n, hn, hl⟩ := e2 i (by simp at hi; omega)
        exact ⟨n, by simpa using hn, hl⟩
    · cases h
/-- Which is ahead, byte by byte. -/
def lessL : List Nat → List Nat → Bool
  | a :: r, b :: s => if a = b then lessL r s else decide (a < b)
  | [], _ :: _ => true
  | _, [] => false
theorem hx_lt {a b : Nat} (h : a < b) (hb : b < 16) : hx a < hx b := by
  unfold hx; split <;> split <;> omega
theorem hx_inj {a b : Nat} (ha : a < 16) (hb : b < 16) (h : hx a = hx b) : a = b := by
  unfold hx at h; split at h <;> split at h <;> omega
theorem less_hex : ∀ {a b : List Nat}, byts a → byts b → a.length = b.length → lessL (hexL a) (hexL b) = lessL a b
  | [], [], _, _, _ => rfl
  | [], _ :: _, _, _, h => by simp at h
  | _ :: _, [], _, _, h => by simp at h
  | x :: a, y :: b, ha, hb, h => by
    have hx1 := ha x (by simp)
    have hy1 := hb y (by simp)
    have ih := less_hex (a := a) (b := b) (fun z hz => ha z (by simp [hz])) (fun z hz => hb z (by simp [hz])) (by simpa using h)
    simp only [hexL, lessL]
    by_cases e : x = y
    · subst e; simp [ih]
    · by_cases e1 : x / 16 = y / 16
      · have e2 : x % 16 ≠ y % 16 := by omega
        have e3 : hx (x % 16) ≠ hx (y % 16) := fun h => e2 (hx_inj (by omega) (by omega) h)
        rw [e1, if_pos rfl, if_neg e3, if_neg e]
        congr 1
        apply propext
        constructor
        · intro hlt
          rcases Nat.lt_or_ge (x % 16) (y % 16) with h' | h'
          · omega
          · have := hx_lt (show y % 16 < x % 16 by omega) (by omega); omega
        · intro hlt
          exact hx_lt (by omega) (by omega)
      · have e3 : hx (x / 16) ≠ hx (y / 16) := fun h => e1 (hx_inj (by omega) (by omega) h)
        rw [if_neg e3, if_neg e]
        congr 1
        apply propext
        constructor
        · intro hlt
          rcases Nat.lt_or_ge (x / 16) (y / 16) with h' | h'
          · omega
          · have := hx_lt (show y / 16 < x / 16 by omega) (by omega); omega
        · intro hlt
          exact hx_lt (by omega) (by omega)
end Go.Proofs.Ytjbiekcldkjgjaa
