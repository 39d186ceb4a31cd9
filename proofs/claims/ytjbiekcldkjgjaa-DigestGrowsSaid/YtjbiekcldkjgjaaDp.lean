/- The walk of Of: the sum of texts, one behind the other. -/
import Derived.Test.YtjbiekcldkjgjaaDo
namespace Go.Proofs.Ytjbiekcldkjgjaa
open Go AVL
attribute [-simp] AV.isAgg aappI aapp alen shp good comps
set_option linter.unusedVariables false
set_option linter.unusedSimpArgs false
set_option maxRecDepth 8000

def txts (L : List (List Nat)) : List AV := L.map fun b => .isl .u8 (ints b)
@[simp] theorem txts_length (L : List (List Nat)) : (txts L).length = L.length := by simp [txts]
@[simp] theorem txts_get (L : List (List Nat)) (i : Nat) (h : i < (txts L).length) : (txts L)[i] = .isl .u8 (ints (L[i]'(by simpa using h))) := by simp [txts]
theorem flat_take {L : List (List Nat)} {i : Nat} (h : i < L.length) : (L.take (i + 1)).flatten = (L.take i).flatten ++ L[i] := by
  rw [List.take_succ_eq_append_getElem h, List.flatten_append]; simp
theorem flat_take_le (L : List (List Nat)) (i : Nat) : (L.take i).flatten.length ≤ L.flatten.length := by
  conv => rhs; rw [← List.take_append_drop i L, List.flatten_append]
  simp
theorem flat_byts {L : List (List Nat)} (h : ∀ b ∈ L, byts b) : byts L.flatten := by
  intro x hx
  obtain ⟨b, hb, hxb⟩ := List.mem_flatten.1 hx
  exact h b hb x hxb
theorem get_le_flat {L : List (List Nat)} {i : Nat} (h : i < L.length) : L[i].length ≤ L.flatten.length := by
  have h1 := flat_take_le L (i + 1)
  rw [flat_take h, List.length_append] at h1
  omega
theorem w_digest_Of {L : List (List Nat)} (hL : ∀ b ∈ L, byts b) (hll : L.flatten.length ≤ 100000) (hn : L.length < 2 ^ 32) :
    Gives Try.prog F_digest_Of [.dsl 1 (txts L)] (.iarr .u8 32 (ints (dig L.flatten))) := by
  refine v_digest_Of (by simp) ?_
  simp -implicitDefEqProofs [a_digest_Of, q_digest_Of_0, q_digest_Of_1, -List.reduceReplicate]
  intro g2
  refine w_digest_New fun h hh hA => ?_
  have hne : g2 ≠ h := by rintro rfl; simp at hh
  obtain ⟨X, hX⟩ : ∃ X, (H0.set g2 (.var 39 [.iarr .u8 32 (List.replicate 32 0)])).set h (hashC H256 .nilS 0) = X := ⟨_, rfl⟩
  have x2 : X g2 = some (arrB z32) := by rw [← hX]; simp [hne]; rfl
  rw [hX] at hA ⊢
  simp -implicitDefEqProofs [q_digest_Of_2]
  refine X_lp (fun (i : Nat) env B => i ≤ L.length ∧ env 2 = .ptr g2 0 ∧ env 3 = .ptr h 0 ∧ env 7 = .dsl 1 (txts L) ∧ env 8 = .int .i64 L.length ∧ env 9 = .int .i64 i ∧ B g2 = some (arrB z32) ∧ ∃ r, HashR B h r (L.take i).flatten ∧ ∀ n, r ≠ .own g2 0 n) (fun i => L.length - i) 0
    ⟨by omega, by simp, by simp, by simp, by simp, by simp, x2, .nilS, hA, fun n e => by cases e⟩ ?_
  rintro i env B ⟨hi, e2, e3, e7, e8, e9, f2, r, hr, hrn⟩
  by_cases hil : i < L.length
  · have hil' : (i : Int) < L.length := by omega
    have wi : IntKind.i64.wrap ((i : Int) + 1) = (i : Int) + 1 := wrap_i64 (by omega)
    simp -implicitDefEqProofs [q_digest_Of_L7, q_digest_Of_3, q_digest_Of_4, q_digest_Of_5, e3, e7, e8, e9, hil, hil']
    have hb := hL _ (List.getElem_mem hil)
    have hbl := get_le_flat hil
    have htl := flat_take_le L i
    refine w_Hash_Add hr (flat_byts fun b hb => hL b (List.mem_of_mem_take hb)) hb (by omega) (by omega) fun r' A' hr' hkeep => ?_
    obtain ⟨f2', hrn'⟩ := hkeep g2 _ hne hrn f2
    simp -implicitDefEqProofs [q_digest_Of_6, e9, wi]
    refine lp_next (i + 1) ⟨by omega, by simp [e2], by simp [e3], by simp [e7], by simp [e8], by simp, f2', r', ?_, hrn'⟩ (by omega)
    rw [flat_take hil]; exact hr'
  · have hil' : ¬ (i : Int) < L.length := by omega
    have hie : i = L.length := by omega
    subst hie
    rw [List.take_length] at hr
    unfold arrB z32 at f2
    simp -implicitDefEqProofs [q_digest_Of_L7, q_digest_Of_3, q_digest_Of_7, e2, e3, e8, e9, hil', -List.reduceReplicate]
    refine (w_Hash_Sum (flat_byts hL) hll).call (.cons (hash_vw hr) rfl .nil) rfl ?_
    have hdl : (dig L.flatten).length = 32 := outB_length _
    simp -implicitDefEqProofs [e2, f2, hdl, outOf, -List.reduceReplicate]
end Go.Proofs.Ytjbiekcldkjgjaa
