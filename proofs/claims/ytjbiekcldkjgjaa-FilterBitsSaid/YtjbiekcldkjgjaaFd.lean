/- The walks of the filter: New, Len, Size, Bytes, Ones. -/
import Derived.Test.YtjbiekcldkjgjaaFc
namespace Go.Proofs.Ytjbiekcldkjgjaa
open Go AVL
set_option linter.unusedVariables false
set_option linter.unusedSimpArgs false

def zer (n : Nat) : List Nat := List.replicate n 0
@[simp] theorem zer_length (n : Nat) : (zer n).length = n := by simp [zer]
theorem zer_bytes (n : Nat) : Bytes (zer n) := fun x hx => by rw [List.eq_of_mem_replicate hx]; decide
theorem zer_ints (n : Nat) : List.replicate n (0 : Int) = ints (zer n) := by simp [ints, zer]
/-- How many bits a filter may have. -/
def okS (n : Int) : Prop := 8 ≤ n ∧ n ≤ 16384 ∧ n % 8 = 0
instance (n : Int) : Decidable (okS n) := by unfold okS; infer_instance
theorem w_filter_New_bad {n : Int} (h0 : -9223372036854775808 ≤ n ∧ n < 9223372036854775808) (h : ¬ okS n) : Gives Try.prog F_filter_New [.int .i64 n] (.tuple [.nilP, .int .i64 2]) := by
  have d4 : n.tmod 8 = 0 ↔ n % 8 = 0 := by rw [← Int.dvd_iff_tmod_eq_zero, Int.dvd_iff_emod_eq_zero]
  by_cases g1 : n < 8
  · refine v_filter_New (by simp) ?_
    simp -implicitDefEqProofs (disch := first | omega | simp) [a_filter_New, q_filter_New_0, q_filter_New_1, q_filter_New_2, g1]
  · by_cases g2 : 16384 < n
    · refine v_filter_New (by simp) ?_
      simp -implicitDefEqProofs (disch := first | omega | simp) [a_filter_New, q_filter_New_0, q_filter_New_1, q_filter_New_2, g1, g2]
    · have w : IntKind.i64.wrap (n.tmod 8) = n.tmod 8 := by
        rw [Int.tmod_eq_emod_of_nonneg (by omega)]; exact wrap_i64 (by omega)
      have g3 : ¬ n.tmod 8 = 0 := by rw [d4]; unfold okS at h; omega
      refine v_filter_New (by simp) ?_
      simp -implicitDefEqProofs (disch := first | omega | simp) [a_filter_New, q_filter_New_0, q_filter_New_1, q_filter_New_2, g1, g2, w, g3]
theorem w_filter_New {nb : Nat} (h1 : 0 < nb) (h2 : nb ≤ 2048) {A : Heap} {K Kp : AV → Heap → Prop} (hK : ∀ h f, A h = none → A f = none → f ≠ h → K (.tuple [.ptr f 0, .int .i64 0]) ((A.set h (.irow T_uint8 .u8 (ints (zer nb)))).set f (.var T_filter_Filter [.own h 0 nb, .int .i64 0]))) :
    SimX Try.prog F_filter_New [.int .i64 (8 * nb : Int)] A (outK K Kp) := by
  have d4 : (8 * (nb : Int)).tmod 8 = 0 := by rw [← Int.dvd_iff_tmod_eq_zero]; omega
  have d5 : (8 * (nb : Int)).tdiv 8 = nb := by rw [Int.tdiv_eq_ediv_of_nonneg (by omega)]; omega
  have g1 : ¬ 8 * (nb : Int) < 8 := by omega
  have g2 : ¬ 16384 < 8 * (nb : Int) := by omega
  have w0 : IntKind.i64.wrap 0 = 0 := by decide
  refine i_filter_New (by simp) fun R hR => ?_
  simp -implicitDefEqProofs +contextual (disch := first | omega | simp) [a_filter_New, q_filter_New_0, q_filter_New_1, q_filter_New_2, q_filter_New_3, d4, d5, g1, g2, w0, wrap_i64]
  refine ⟨by omega, fun g hg f hf _ hf2 => hR _ _ _ ?_⟩
  simp -implicitDefEqProofs [a_filter_New, fpost, outOf]
  refine ⟨_, Sub_refl _, ?_⟩
  rw [zer_ints]
  exact hK g f hg hf2 hf
theorem w_filter_Len (bs : List Nat) (n : Int) : Gives Try.prog F_Pfilter_Filter_Len [.pval (filV bs n)] (.int .i64 n) := by
  refine v_Pfilter_Filter_Len (by simp) ?_
  simp -implicitDefEqProofs [a_Pfilter_Filter_Len, q_Pfilter_Filter_Len_0, q_Pfilter_Filter_Len_1, filV]
theorem w_filter_Size (bs : List Nat) (n : Int) (hl : bs.length ≤ 2048) : Gives Try.prog F_Pfilter_Filter_Size [.pval (filV bs n)] (.int .i64 (8 * bs.length)) := by
  refine v_Pfilter_Filter_Size (by simp) ?_
  simp -implicitDefEqProofs (disch := first | omega | simp) [a_Pfilter_Filter_Size, q_Pfilter_Filter_Size_0, q_Pfilter_Filter_Size_1, filV, wrap_i64]
theorem w_filter_Bytes (bs : List Nat) (n : Int) (hl : bs.length ≤ 2048) : Makes Try.prog F_Pfilter_Filter_Bytes [.pval (filV bs n)] bs.length (.irow T_uint8 .u8 (ints bs)) := by
  refine i_Pfilter_Filter_Bytes (by simp) fun R hR => ?_
  simp -implicitDefEqProofs +contextual (disch := first | omega | simp) [a_Pfilter_Filter_Bytes, q_Pfilter_Filter_Bytes_0, q_Pfilter_Filter_Bytes_1, filV]
  exact fun g => ⟨by omega, fun g' _ _ => hR _ _ _ ⟨_, Sub_refl _, g', rfl, rfl⟩⟩
def pop8 (x : Nat) : Nat := (List.range 8).countP fun i => x.testBit i
theorem pop_tab : ∃ s : ByteArray, a_math_bits_OnesCount8.body = .seq (.region q_math_bits_OnesCount8_0) (.seq (.region [⟨some 3, .mv (.t 0), none⟩, ⟨some 4, .xx (.p .strIdx) [.v (.str s), .t 3], none⟩, ⟨some 5, .conv .i64 (.t 4), none⟩, ⟨some 2, .mv (.t 5), none⟩]) .ret) ∧ s.size = 256 ∧ ∀ x, x < 256 → (bytesI s).getD x 0 = pop8 x := ⟨_, rfl, by decide +kernel, by decide +kernel⟩
theorem pop8_le (x : Nat) : pop8 x ≤ 8 := by
  have := List.countP_le_length (p := fun i => x.testBit i) (l := List.range 8)
  simpa [pop8] using this
theorem w_OnesCount8 (x : Nat) (hx : x < 256) : Gives Try.prog F_math_bits_OnesCount8 [.int .u8 x] (.int .i64 (pop8 x)) := by
  obtain ⟨s, h1, h2, h3⟩ := pop_tab
  have h4 := h3 x hx
  have h5 := pop8_le x
  refine v_math_bits_OnesCount8 (by simp) ?_
  rw [h1]
  simp -implicitDefEqProofs (disch := first | omega | simp) [q_math_bits_OnesCount8_0, h2, hx, a_math_bits_OnesCount8]
  rw [← List.getD_eq_getElem?_getD, h4]
  exact wrap_i64 (by omega)
def ones (bs : List Nat) : Nat := (bs.map pop8).sum
theorem ones_le : ∀ bs : List Nat, ones bs ≤ 8 * bs.length
  | [] => by simp [ones]
  | x :: r => by
    have h1 := pop8_le x
    have h2 := ones_le r
    simp only [ones, List.map_cons, List.sum_cons, List.length_cons] at h2 ⊢
    omega
theorem ones_take {bs : List Nat} {i : Nat} (h : i < bs.length) : ones (bs.take (i + 1)) = ones (bs.take i) + pop8 bs[i] := by
  rw [List.take_succ_eq_append_getElem h]; simp only [ones, List.map_append, List.sum_append, List.map_cons, List.map_nil, List.sum_cons, List.sum_nil]; omega
theorem w_filter_Ones (bs : List Nat) (n : Int) (hb : Bytes bs) (hl : bs.length ≤ 2048) : Gives Try.prog F_Pfilter_Filter_Ones [.pval (filV bs n)] (.int .i64 (ones bs)) := by
  refine v_Pfilter_Filter_Ones (by simp) ?_
  simp -implicitDefEqProofs [a_Pfilter_Filter_Ones, q_Pfilter_Filter_Ones_0, q_Pfilter_Filter_Ones_1, q_Pfilter_Filter_Ones_2, filV]
  refine X_lp (fun (i : Nat) env A => i ≤ bs.length ∧ env 3 = .int .i64 (ones (bs.take i)) ∧ env 9 = .isl .u8 (ints bs) ∧ env 10 = .int .i64 bs.length ∧ env 11 = .int .i64 i) (fun i => bs.length - i) 0 ⟨by omega, by simp [ones], by simp, by simp, by simp⟩ ?_
  rintro i env A ⟨hi, e3, e9, e10, e11⟩
  simp -implicitDefEqProofs (disch := first | omega | simp) [q_Pfilter_Filter_Ones_L7, q_Pfilter_Filter_Ones_3, q_Pfilter_Filter_Ones_7, e3, e9, e10, e11]
  refine ⟨fun hl => ?_, fun hl => ?_⟩
  · have h2 := ones_take hl
    have h3 := ones_le (bs.take (i + 1))
    have h4 : (bs.take (i + 1)).length ≤ bs.length := List.length_take_le' _ _
    have h5 : IntKind.i64.wrap ((ones (bs.take i) : Nat) + (pop8 bs[i] : Nat) : Int) = ((ones (bs.take (i + 1)) : Nat) : Int) := by rw [wrap_i64 (by omega)]; omega
    simp -implicitDefEqProofs (disch := first | omega | simp) [q_Pfilter_Filter_Ones_4, q_Pfilter_Filter_Ones_5, q_Pfilter_Filter_Ones_6, e3, e9, e10, e11, hl, wrap_i64]
    refine (w_OnesCount8 _ (hb _ (List.getElem_mem hl))).call (.cons (.refl _) rfl .nil) rfl ?_
    simp -implicitDefEqProofs (disch := first | omega | simp) [e3, e11, h5, wrap_i64]
    exact lp_next (i + 1) ⟨by omega, by simp, by simp [e9], by simp [e10], by simp⟩ (by omega)
  · have : i = bs.length := by omega
    subst this
    simp
end Go.Proofs.Ytjbiekcldkjgjaa
