/- The walk of the reference's bits. -/
import Derived.Test.YtgbplcelcjffdaaCg
import Derived.Test.YtgbplcelcjffdaaCa2
namespace Go.Proofs.Ytgbplcelcjffdaa
open Go AVL
set_option linter.unusedVariables false
set_option linter.unusedSimpArgs false

def rawb (l : List Nat) (p : Nat) : Nat := l[p / 8]?.getD 0 / 2 ^ (p % 8) % 2
def rawbits (l : List Nat) (n : Nat) : List Nat := (List.range n).map (rawb l)
theorem rawbits_succ (l : List Nat) (n : Nat) : rawbits l (n + 1) = rawbits l n ++ [rawb l n] := by simp [rawbits, List.range_succ]
@[simp] theorem rawbits_length (l : List Nat) (n : Nat) : (rawbits l n).length = n := by simp [rawbits]
/-- A row of bytes that grows. -/
def Row (v : AV) (B : Heap) (xs : List Nat) : Prop := (xs = [] ∧ v = .nilS ∧ B = H0) ∨ ∃ g, v = .own g 0 xs.length ∧ B = H0.set g (.irow 5 .u8 (ints xs))

theorem w53 (l : List Nat) (hl : Bytes l) (hn : l.length < 2 ^ 20) : SimX Try.prog 53 [.isl .u8 (ints l)] H0 (fun o A' => ∃ v, o = .ret v ∧ Row v A' (rawbits l (8 * l.length))) := by
  refine X_intro g53 c53 (by rw [Try.ntmps53]; simp) fun R hR => ?_
  simp -implicitDefEqProofs [a53, q53_0, q53_1, q53_2]
  refine X_loopS (fun (i : Nat) env B => i ≤ l.length ∧ env 0 = .isl .u8 (ints l) ∧ env 4 = .int .i64 i ∧ Row (env 3) B (rawbits l (8 * i))) (fun i => l.length - i) 0 H0 (Sub_refl _)
    ⟨by simp, by simp, by simp, .inl ⟨rfl, by simp, rfl⟩⟩ ?_
  rintro R' i env B ⟨h1, h2, h3, h4⟩ hN hE
  simp -implicitDefEqProofs [q53_L9, q53_3, h2, h3]
  refine ⟨fun hi => ?_, fun hi => ?_⟩
  · simp -implicitDefEqProofs [q53_4]
    refine X_loopS (fun (k : Nat) env B => k ≤ 8 ∧ env 0 = .isl .u8 (ints l) ∧ env 4 = .int .i64 i ∧ env 5 = .int .i64 k ∧ Row (env 3) B (rawbits l (8 * i + k))) (fun k => 8 - k) 0 B (Sub_refl _)
      ⟨by simp, by simp [h2], by simp [h3], by simp, by simpa using h4⟩ ?_
    rintro R2 k env B_ ⟨k1, k2, k3, k4, k5⟩ kN kE
    simp -implicitDefEqProofs [q53_L8, q53_5, k4]
    refine ⟨fun hk => ?_, fun hk => ?_⟩
    · have hd : (8 * i + k) / 8 = i := by omega
      have hm : (8 * i + k) % 8 = k := by omega
      have hx : l[i] < 256 := hl _ (List.getElem_mem hi)
      have hr : rawb l (8 * i + k) = l[i] / 2 ^ k % 2 := by simp [rawb, hd, hm, List.getElem?_eq_getElem hi]
      have s1 : shrI .u8 ((l[i] : Nat) : Int) (k : Int) = ((l[i] / 2 ^ k : Nat) : Int) := by rw [shrI_nat]; congr 3; simp [IntKind.bits]; omega
      have s2 : bAnd .u8 ((l[i] / 2 ^ k : Nat) : Int) 1 = ((rawb l (8 * i + k) : Nat) : Int) := by
        have := bAnd_nat (k := .u8) rfl (a := l[i] / 2 ^ k) (by have := Nat.div_le_self l[i] (2 ^ k); simp [IntKind.bits]; omega) (b := 1) (by decide)
        rw [Nat.and_one_is_mod] at this; rw [hr]; exact this
      have s3 : IntKind.u64.wrap (k : Int) = k := wrap_u64 (by omega)
      have s4 : IntKind.i64.wrap ((k : Int) + 1) = ((k + 1 : Nat) : Int) := by rw [wrap_i64 (by omega)]; simp
      have hs : rawbits l (8 * i + (k + 1)) = rawbits l (8 * i + k) ++ [rawb l (8 * i + k)] := rawbits_succ l _
      rcases k5 with ⟨e1, e2, rfl⟩ | ⟨g, e2, rfl⟩
      · simp -implicitDefEqProofs +contextual [q53_6, k2, k3, k4, e2, hi, s1, s2, s3, -Int.natCast_ediv, -Int.natCast_emod, -Int.natCast_pow]
        intro g1 g2 _ _
        simp -implicitDefEqProofs [q53_7, k4, s4, -Int.natCast_add]
        refine kN (k + 1) _ _ (H0.set g2 (.irow 5 .u8 (ints (rawbits l (8 * i + (k + 1)))))) ?_ ⟨by omega, by simp [k2], by simp [k3], by simp, .inr ⟨g2, ?_, rfl⟩⟩ (by omega)
        · rw [hs, e1]; exact set_sub (H0_sub _)
        · simp [hs, e1]
      · simp -implicitDefEqProofs +contextual [q53_6, k2, k3, k4, e2, hi, s1, s2, s3, -Int.natCast_ediv, -Int.natCast_emod, -Int.natCast_pow]
        intro g1 _ _
        refine ⟨by omega, fun g2 _ _ _ _ => ?_⟩
        simp -implicitDefEqProofs [q53_7, k4, s4, -Int.natCast_add]
        refine kN (k + 1) _ _ (H0.set g2 (.irow 5 .u8 (ints (rawbits l (8 * i + (k + 1)))))) ?_ ⟨by omega, by simp [k2], by simp [k3], by simp, .inr ⟨g2, ?_, rfl⟩⟩ (by omega)
        · have : List.take (8 * i + k) (rawbits l (8 * i + k)) = rawbits l (8 * i + k) := List.take_of_length_le (by simp)
          rw [hs, this, ← ints_append]; exact set_sub (H0_sub _)
        · simp [hs]
    · refine kE _ _ _ (by simp) ?_
      have hk8 : k = 8 := by omega
      subst hk8
      have s4 : IntKind.i64.wrap ((i : Int) + 1) = ((i + 1 : Nat) : Int) := by rw [wrap_i64 (by omega)]; simp
      simp -implicitDefEqProofs [q53_8, k3, s4, -Int.natCast_add]
      exact hN (i + 1) _ _ B_ (Sub_refl _) ⟨hi, by simp [k2], by simp, by simpa [Nat.mul_add] using k5⟩ (by omega)
  · refine hE _ _ _ (by simp) ?_
    have : i = l.length := by omega
    subst this
    simp -implicitDefEqProofs [q53_9]
    refine hR _ _ _ ?_
    simp [a53, fpost]
    exact ⟨B, Sub_refl _, h4⟩
end Go.Proofs.Ytgbplcelcjffdaa
