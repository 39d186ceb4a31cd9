/- The walks of the filter's reference: Bits, has, Set, Has, Bytes. -/
import Derived.Test.YtjbiekcldkjgjaaFe
namespace Go.Proofs.Ytjbiekcldkjgjaa
open Go AVL
set_option linter.unusedVariables false
set_option linter.unusedSimpArgs false
attribute [-simp] AV.isAgg aappI aapp alen

/-- The bits that an address has. -/
def bitsA (a : List Nat) (size : Nat) : List Nat := (List.range 4).map fun i => prb a i size
@[simp] theorem bitsA_length (a : List Nat) (size : Nat) : (bitsA a size).length = 4 := by simp [bitsA]
theorem bits_next (a : List Nat) (size i : Nat) : (List.range (i + 1)).map (fun i => prb a i size) = (List.range i).map (fun i => prb a i size) ++ [prb a i size] := by simp [List.range_succ]
theorem ints_one (l : List Nat) (x : Nat) : ints l ++ [(x : Int)] = ints (l ++ [x]) := by simp [ints]
theorem w_ref32_Bits (a : List Nat) (size : Nat) (ha : Adr a) (hs : 0 < size) (hs2 : size < 2 ^ 20) : Makes Try.prog F_ref32_Bits [adrV a, .int .i64 size] 4 (.irow T_int .i64 (ints (bitsA a size))) := by
  obtain ⟨ha, hal⟩ := ha
  refine i_ref32_Bits (by simp) fun R hR => ?_
  simp -implicitDefEqProofs [a_ref32_Bits, q_ref32_Bits_0, q_ref32_Bits_1, q_ref32_Bits_2, adrV]
  intro g
  refine X_lp (fun (i : Nat) env B => i ≤ 4 ∧ env 1 = .int .i64 size ∧ env 2 = .ptr g 0 ∧ env 6 = .int .i64 i ∧ SlS T_int .i64 (env 5) (ints ((List.range i).map fun i => prb a i size)) (H0.set g (.var 39 [adrV a])) B) (fun i => 4 - i) 0
    ⟨by omega, by simp, by simp, by simp, SlS.nil (by simp [adrV]; exact Sub_refl _)⟩ ?_
  rintro i env B ⟨hi, e1, e2, e6, h5⟩
  obtain ⟨v5, hv5⟩ : ∃ v, env 5 = v := ⟨_, rfl⟩
  rw [hv5] at h5
  simp -implicitDefEqProofs (disch := first | omega | simp) [q_ref32_Bits_L11, q_ref32_Bits_3, q_ref32_Bits_4, q_ref32_Bits_5, q_ref32_Bits_11, e1, e2, e6, hv5]
  refine ⟨fun hi4 => ?_, fun hi4 => ?_⟩
  · refine X_lp (fun (j : Nat) env B' => j ≤ 8 ∧ env 1 = .int .i64 size ∧ env 2 = .ptr g 0 ∧ env 6 = .int .i64 i ∧ env 8 = .int .i64 j ∧ env 5 = v5 ∧ SlS T_uint8 .u8 (env 7) (ints ((a.drop (8 * i)).take j)) B B') (fun j => 8 - j) 0
      ⟨by omega, by simp [e1], by simp [e2], by simp [e6], by simp, by simp [hv5], by simpa using SlS.nil (Sub_refl _)⟩ ?_
    rintro j env B' ⟨hj, e1, e2, e6, e8, e5, h7⟩
    obtain ⟨v7, hv7⟩ : ∃ v, env 7 = v := ⟨_, rfl⟩
    rw [hv7] at h7
    simp -implicitDefEqProofs (disch := first | omega | simp) [q_ref32_Bits_L9, q_ref32_Bits_6, e1, e2, e6, e8, e5, hv7]
    have hg : B' g = some (.var 39 [adrV a]) := h7.sub _ _ (h5.sub _ _ (by simp))
    refine ⟨fun hj8 => ?_, fun hj8 => ?_⟩
    · have e9 : ((8 * (i : Int)) + j).toNat = 8 * i + j := by omega
      have hlt : 8 * i + j < a.length := by omega
      simp -implicitDefEqProofs (disch := first | omega | simp) [q_ref32_Bits_7, q_ref32_Bits_8, e1, e2, e6, e8, e5, hv7, hg, adrV, wrap_i64, e9, hlt, hal, -aappI]
      refine ⟨by omega, by omega, fun g1 hg1 => ?_⟩
      refine h7.app (ys := [((a[8 * i + j] : Nat) : Int)]) (by simp) (sub_none hg1) hg1 (by simp; omega) fun v' C' h' hag => ?_
      simp -implicitDefEqProofs (disch := first | omega | simp) [e8, wrap_i64]
      refine lp_next (j + 1) ⟨by omega, by simp [e1], by simp [e2], by simp [e6], by simp, by simp [e5], ?_⟩ (by omega)
      have : (a.drop (8 * i)).take (j + 1) = (a.drop (8 * i)).take j ++ [a[8 * i + j]] := by
        rw [List.take_succ_eq_append_getElem (by simp; omega)]; simp
      rw [this, ← ints_one]
      simpa using h'
    · have : j = 8 := by omega
      subst this
      have hb := bytes_take (bytes_drop ha (8 * i)) 8
      have h8 : ((a.drop (8 * i)).take 8).length ≤ 8 := by simp; omega
      have hlt := leN_lt8 hb h8
      simp -implicitDefEqProofs (disch := first | omega | simp) [q_ref32_Bits_9, e5, hv7, h7.agg]
      refine (w_ref01_Get _ _ rfl h8 hb).call (.cons h7.vw (by rw [h7.agg]; rfl) .nil) rfl ?_
      have q1 : IntKind.u64.wrap (size : Int) = (size : Int) := wrap_u64 (by omega)
      have q2 : ((leN ((a.drop (8 * i)).take 8) : Nat) : Int).tmod (size : Int) = ((prb a i size : Nat) : Int) := rfl
      have q3 := prb_lt (a := a) (i := i) hs
      have q4 : IntKind.i64.wrap ((prb a i size : Nat) : Int) = ((prb a i size : Nat) : Int) := wrap_i64 (by omega)
      have q5 : ¬ ((size : Int) = 0) := by omega
      have q5' : ¬ (size = 0) := by omega
      have q6 : IntKind.u64.wrap ((prb a i size : Nat) : Int) = ((prb a i size : Nat) : Int) := wrap_u64 (by omega)
      simp -implicitDefEqProofs (disch := first | omega | simp) [q_ref32_Bits_10, e1, e6, q1, q2, q4, q5, q5', q6, wrap_i64]
      intro g1 hg1
      have h5' := h5.mono h7.sub
      refine h5'.app (ys := [((prb a i size : Nat) : Int)]) (by simp) (sub_none hg1) hg1 (by simp; omega) fun v' C' h' hag => ?_
      simp -implicitDefEqProofs (disch := first | omega | simp) [e6, wrap_i64]
      refine lp_next (i + 1) ⟨by omega, by simp [e1], by simp [e2], by simp, ?_⟩ (by omega)
      rw [bits_next, ← ints_one]
      simpa using h'
  · have : i = 4 := by omega
    subst this
    refine hR _ _ _ ?_
    rcases h5.own with ⟨_, h⟩ | ⟨g5, h, _, hB⟩
    · simp [ints, bitsA] at h
    · simp -implicitDefEqProofs [a_ref32_Bits, fpost, outOf, h]
      exact sub_set (H0_sub _) hB
theorem w_ref32_has (l : List Nat) (n : Nat) (hl : l.length < 2 ^ 40) : Gives Try.prog F_ref32_has [.isl .i64 (ints l), .int .i64 n] (.bool (decide (n ∈ l))) := by
  refine v_ref32_has (by simp) ?_
  simp -implicitDefEqProofs [a_ref32_has, q_ref32_has_0, q_ref32_has_1]
  refine X_lp (fun (i : Nat) env A => i ≤ l.length ∧ env 0 = .isl .i64 (ints l) ∧ env 1 = .int .i64 n ∧ env 5 = .int .i64 i ∧ n ∉ l.take i) (fun i => l.length - i) 0 ⟨by omega, by simp, by simp, by simp, by simp⟩ ?_
  rintro i env A ⟨hi, e0, e1, e5, hn⟩
  simp -implicitDefEqProofs (disch := first | omega | simp) [q_ref32_has_L6, q_ref32_has_2, q_ref32_has_6, e0, e1, e5]
  refine ⟨fun hil => ?_, fun hil => ?_⟩
  · have ht : l.take (i + 1) = l.take i ++ [l[i]] := List.take_succ_eq_append_getElem hil
    by_cases hx : l[i] = n
    · have hm : n ∈ l := hx ▸ List.getElem_mem hil
      simp -implicitDefEqProofs (disch := first | omega | simp) [q_ref32_has_3, q_ref32_has_4, e0, e1, e5, hil, hx, hm]
    · have hx' : ¬ (((l[i] : Nat) : Int) = (n : Int)) := by omega
      simp -implicitDefEqProofs (disch := first | omega | simp) [q_ref32_has_3, q_ref32_has_5, e0, e1, e5, hil, hx, hx', wrap_i64]
      refine lp_next (i + 1) ⟨by omega, by simp [e0], by simp [e1], by simp, ?_⟩ (by omega)
      rw [ht]; exact fun h => (List.mem_append.1 h).elim hn (by simp [Ne.symm hx])
  · have : i = l.length := by omega
    subst this
    rw [List.take_length] at hn
    simp [hn]
/-- A number more, if it isn't there. -/
def addS (s : List Nat) (n : Nat) : List Nat := if n ∈ s then s else s ++ [n]
/-- The bits that addresses have, each once. -/
def setA (size : Nat) (s : List Nat) (a : List Nat) : List Nat := (bitsA a size).foldl addS s
def setL (l : List (List Nat)) (size : Nat) : List Nat := l.foldl (setA size) []
theorem addS_len (s : List Nat) (n : Nat) : (addS s n).length ≤ s.length + 1 := by unfold addS; split <;> simp
theorem addF_len : ∀ (l s : List Nat), (l.foldl addS s).length ≤ s.length + l.length
  | [], s => by simp
  | x :: l, s => by
    have := addF_len l (addS s x)
    have := addS_len s x
    simp only [List.foldl_cons, List.length_cons]; omega
theorem setL_take {l : List (List Nat)} {size i : Nat} (h : i < l.length) : setL (l.take (i + 1)) size = setA size (setL (l.take i) size) l[i] := by
  rw [List.take_succ_eq_append_getElem h]; simp only [setL, List.foldl_append, List.foldl_cons, List.foldl_nil]
theorem setL_len (size : Nat) : ∀ (l : List (List Nat)) (s : List Nat), (l.foldl (setA size) s).length ≤ s.length + 4 * l.length
  | [], s => by simp
  | a :: l, s => by
    have := setL_len size l (setA size s a)
    have := addF_len (bitsA a size) s
    simp only [List.foldl_cons, List.length_cons, setA, bitsA_length] at *; omega
theorem w_ref32_Set (l : List (List Nat)) (size : Nat) (hl : ∀ a ∈ l, Adr a) (hll : l.length < 2 ^ 20) (hs : 0 < size) (hs2 : size < 2 ^ 20) : MakesS Try.prog F_ref32_Set [.dsl 32 (adrs l), .int .i64 size] T_int .i64 (ints (setL l size)) := by
  refine i_ref32_Set (by simp) fun R hR => ?_
  simp -implicitDefEqProofs [a_ref32_Set, q_ref32_Set_0, q_ref32_Set_1, q_ref32_Set_2]
  refine X_lp (fun (i : Nat) env B => i ≤ l.length ∧ env 0 = .dsl 32 (adrs l) ∧ env 1 = .int .i64 size ∧ env 6 = .int .i64 i ∧ SlS T_int .i64 (env 5) (ints (setL (l.take i) size)) H0 B) (fun i => l.length - i) 0
    ⟨by omega, by simp, by simp, by simp, by simpa [setL] using SlS.nil (Sub_refl _)⟩ ?_
  rintro i env B ⟨hi, e0, e1, e6, h5⟩
  obtain ⟨v5, hv5⟩ : ∃ v, env 5 = v := ⟨_, rfl⟩
  rw [hv5] at h5
  simp -implicitDefEqProofs (disch := first | omega | simp) [q_ref32_Set_L11, q_ref32_Set_3, q_ref32_Set_11, e0, e1, e6, hv5]
  refine ⟨fun hil => ?_, fun hil => ?_⟩
  · have ha := hl _ (List.getElem_mem hil)
    simp -implicitDefEqProofs (disch := first | omega | simp) [q_ref32_Set_4, q_ref32_Set_5, e0, e1, e6, hv5, hil, adrV]
    refine (w_ref32_Bits _ _ ha hs hs2).call (.cons (.refl _) rfl (.cons (.refl _) rfl .nil)) rfl fun gb hgb => ?_
    simp -implicitDefEqProofs (disch := first | omega | simp)
    have ht := setL_take (size := size) hil
    obtain ⟨s0, hs0⟩ : ∃ s, setL (l.take i) size = s := ⟨_, rfl⟩
    obtain ⟨b, hb⟩ : ∃ b, bitsA l[i] size = b := ⟨_, rfl⟩
    have hbl : b.length = 4 := by rw [← hb]; simp
    have hsl : s0.length ≤ 4 * l.length := by
      have := setL_len size (l.take i) []
      have h2 : (l.take i).length ≤ l.length := List.length_take_le' _ _
      rw [setL] at hs0; rw [hs0] at this; simp only [List.length_nil] at this; omega
    rw [setA, hb, hs0] at ht
    rw [hs0] at h5
    refine X_lp (fun (j : Nat) env B' => j ≤ 4 ∧ env 0 = .dsl 32 (adrs l) ∧ env 1 = .int .i64 size ∧ env 6 = .int .i64 i ∧ env 7 = .own gb 0 4 ∧ env 8 = .int .i64 j ∧ SlS T_int .i64 (env 5) (ints ((b.take j).foldl addS s0)) (H0.set gb (.irow T_int .i64 (ints b))) B') (fun j => 4 - j) 0
      ⟨by omega, by simp [e0], by simp [e1], by simp [e6], by simp, by simp, by simpa [hv5, hb] using h5.rebase hgb⟩ ?_
    rintro j env B' ⟨hj, e0, e1, e6, e7, e8, h5⟩
    obtain ⟨v5, hv5⟩ : ∃ v, env 5 = v := ⟨_, rfl⟩
    rw [hv5] at h5
    have hgb' := h5.sub gb _ set_eq'
    simp -implicitDefEqProofs (disch := first | omega | simp) [q_ref32_Set_L10, q_ref32_Set_6, e0, e1, e6, e7, e8, hv5]
    refine ⟨fun hj4 => ?_, fun hj4 => ?_⟩
    · have hjb : j < b.length := by omega
      have htk : (b.take (j + 1)).foldl addS s0 = addS ((b.take j).foldl addS s0) b[j] := by
        rw [List.take_succ_eq_append_getElem hjb]; simp only [List.foldl_append, List.foldl_cons, List.foldl_nil]
      have hlen := addF_len (b.take j) s0
      have h2 : (b.take j).length ≤ b.length := List.length_take_le' _ _
      simp -implicitDefEqProofs (disch := first | omega | simp) [q_ref32_Set_7, e0, e1, e6, e7, e8, hv5, hgb', hjb, h5.agg]
      refine ⟨by omega, ?_⟩
      refine (w_ref32_has _ _ (by omega)).call (.cons h5.vw (by rw [h5.agg]; rfl) (.cons (.refl _) rfl .nil)) rfl ?_
      by_cases hm : b[j] ∈ (b.take j).foldl addS s0
      · simp -implicitDefEqProofs (disch := first | omega | simp) [q_ref32_Set_9, e8, hm, wrap_i64]
        refine lp_next (j + 1) ⟨by omega, by simp [e0], by simp [e1], by simp [e6], by simp [e7], by simp, ?_⟩ (by omega)
        rw [htk, addS, if_pos hm]; simpa [hv5] using h5
      · simp -implicitDefEqProofs (disch := first | omega | simp) [q_ref32_Set_8, q_ref32_Set_9, e7, e8, hm, hv5, hgb', hjb, wrap_i64]
        refine ⟨by omega, fun g1 hg1 => ?_⟩
        refine h5.app (ys := [((b[j] : Nat) : Int)]) (by simp) (sub_none hg1) hg1 (by simp; omega) fun v' C' h' hag => ?_
        simp -implicitDefEqProofs (disch := first | omega | simp) [e8, wrap_i64]
        refine lp_next (j + 1) ⟨by omega, by simp [e0], by simp [e1], by simp [e6], by simp [e7], by simp, ?_⟩ (by omega)
        rw [htk, addS, if_neg hm, ← ints_one]; simpa using h'
    · have : j = 4 := by omega
      subst this
      rw [← hbl, List.take_length, ← ht] at h5
      simp -implicitDefEqProofs (disch := first | omega | simp) [q_ref32_Set_10, e6, wrap_i64]
      exact lp_next (i + 1) ⟨by omega, by simp [e0], by simp [e1], by simp, by simpa [hv5] using h5.base (H0_sub _)⟩ (by omega)
  · have : i = l.length := by omega
    subst this
    rw [List.take_length] at h5
    refine hR _ _ _ ?_
    simpa -implicitDefEqProofs [fpost, a_ref32_Set] using h5.fin
end Go.Proofs.Ytjbiekcldkjgjaa
