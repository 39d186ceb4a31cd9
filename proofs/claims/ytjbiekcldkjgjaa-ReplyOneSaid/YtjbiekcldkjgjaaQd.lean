/- The walks of Short and of the reference's Bytes; of the answers' likeness. -/
import Derived.Test.YtjbiekcldkjgjaaQc
import Derived.Test.YtjbiekcldkjgjaaGref21
namespace Go.Proofs.Ytjbiekcldkjgjaa
open Go AVL
attribute [-simp] AV.isAgg aappI aapp alen
set_option linter.unusedVariables false
set_option linter.unusedSimpArgs false
set_option maxRecDepth 4000

/-- A code alone. -/
def r0 (c : Int) : Rp := ⟨c, List.replicate 32 0, [], [], 0, false⟩
theorem r0_ok {c : Int} (h : -9223372036854775808 ≤ c ∧ c < 9223372036854775808) : (r0 c).ok :=
  ⟨h, by simp [r0], ⟨by intro x hx; simp [r0] at hx; omega, by simp [r0]⟩, by intro x hx; simp [r0] at hx, by intro x hx; simp [r0] at hx, by simp [r0], by simp [r0]⟩
def encS (r : Rp) : List Nat := if ck r = 0 then encD r else encD (r0 (ck r))
theorem ck_code (r : Rp) : 0 ≤ ck r ∧ ck r ≤ 15 := by
  unfold ck; repeat' split
  all_goals omega
theorem ck_r0 {c : Int} (h : 0 ≤ c ∧ c ≤ 17) : ck (r0 c) = 0 := by
  have h1 : ¬ c < 0 := by omega
  have h2 : ¬ 17 < c := by omega
  simp [ck, r0, h1, h2]
theorem vw_r0 {A : Heap} (c : Int) : VwL A [.agg [.int .i64 c, .iarr .u8 32 (List.replicate 32 0), .nilS, .nilS, .int .i64 0, .bool false]] [rpV (r0 c)] :=
  .cons (.agg (.cons (.refl _) (.cons (.refl _) (.cons (.nil .u8) (.cons (.nilD 32) (.cons (.refl _) (.cons (.refl _) .nil))))))) rfl .nil
theorem two_noF (c : Int) (v : AV) (h : v.noF = true) : (two c v).noF = true := by simp [two, AV.noF, AV.noFs, h]
theorem w_reply_Short {c : Int} (h : -9223372036854775808 ≤ c ∧ c < 9223372036854775808) : MakesS Try.prog F_reply_Short [.int .i64 c] T_uint8 .u8 (ints (encS (r0 c))) := by
  refine i_reply_Short (by simp) fun R hR => ?_
  simp -implicitDefEqProofs [a_reply_Short, q_reply_Short_0, q_reply_Short_1, -List.reduceReplicate]
  refine (w_reply_Put (r0_ok h)).call (vw_r0 c) (two_noF _) fun v B hB => ?_
  have hcc := ck_code (r0 c)
  by_cases hc : ck (r0 c) = 0
  · simp -implicitDefEqProofs [two, hc, q_reply_Short_2, q_reply_Short_4]
    refine hR _ _ _ ?_
    have := hB.fin
    simpa -implicitDefEqProofs [fpost, a_reply_Short, outOf, hB.agg, encS, hc] using this
  · simp -implicitDefEqProofs [two, hc, q_reply_Short_2, q_reply_Short_3, -List.reduceReplicate]
    refine (w_reply_Put (r0_ok (by omega))).call (vw_r0 _) (two_noF _) fun v' B' hB' => ?_
    simp -implicitDefEqProofs [two, hc, q_reply_Short_4]
    refine hR _ _ _ ?_
    have := (hB'.base (H0_sub _)).fin
    simpa -implicitDefEqProofs [fpost, a_reply_Short, outOf, hB'.agg, encS, hc] using this
theorem w_ref25_Bytes {r : Rp} (hr : r.ok) : MakesS Try.prog F_ref25_Bytes [rpV r] T_uint8 .u8 (ints (encS r)) := by
  refine i_ref25_Bytes (by simp) fun R hR => ?_
  unfold rpV rpW
  simp -implicitDefEqProofs [a_ref25_Bytes, q_ref25_Bytes_0, q_ref25_Bytes_1, adrV, il]
  intro g0
  refine (w_ref25_Put hr).call (.cons (.refl _) rfl .nil) (two_noF _) fun v B hB => ?_
  have hcc := ck_code r
  by_cases hc : ck r = 0
  · simp -implicitDefEqProofs [two, hc, q_ref25_Bytes_2, q_ref25_Bytes_3]
    refine hR _ _ _ ?_
    have := (hB.base (H0_sub _)).fin
    simpa -implicitDefEqProofs [fpost, a_ref25_Bytes, outOf, hB.agg, encS, hc] using this
  · simp -implicitDefEqProofs [two, hc, q_ref25_Bytes_2, q_ref25_Bytes_4, -List.reduceReplicate]
    refine (w_ref25_Put (r0_ok (by omega))).call (vw_r0 _) (two_noF _) fun v' B' hB' => ?_
    simp -implicitDefEqProofs [two, hc, q_ref25_Bytes_5]
    refine hR _ _ _ ?_
    have := (hB'.base (H0_sub _)).fin
    simpa -implicitDefEqProofs [fpost, a_ref25_Bytes, outOf, hB'.agg, encS, hc] using this
def sameR (r s : Rp) : Bool := decide (r.code = s.code) && (decide (r.addr = s.addr) && (decide (r.n = s.n) && (decide (r.done = s.done) && (decide (r.data = s.data) && decide (r.list = s.list)))))
theorem sameR_iff {r s : Rp} : sameR r s = true ↔ r = s := by
  constructor
  · intro h
    simp only [sameR, Bool.and_eq_true, decide_eq_true_eq] at h
    obtain ⟨h1, h2, h3, h4, h5, h6⟩ := h
    cases r; cases s
    simp only at h1 h2 h3 h4 h5 h6
    subst h1; subst h2; subst h3; subst h4; subst h5; subst h6; rfl
  · rintro rfl; simp [sameR]
theorem sameR_eq {r s t u : Rp} (h : r = s ↔ t = u) : sameR r s = sameR t u := by
  rw [Bool.eq_iff_iff, sameR_iff, sameR_iff]; exact h
theorem w_ref21_Same {r s : Rp} (hr : r.ok) (hs : s.ok) : Gives Try.prog F_ref21_Same [rpV r, rpV s] (.bool (sameR r s)) := by
  refine v_ref21_Same (by simp) ?_
  unfold rpV rpW
  have ha := eqI_ints hr.addr.2 hs.addr.2
  have hdd := strOf_inj hr.data hs.data
  simp -implicitDefEqProofs [a_ref21_Same, q_ref21_Same_0, adrV, il]
  intro g g1 n1 n2
  by_cases h1 : r.code = s.code
  case neg => simp -implicitDefEqProofs [q_ref21_Same_1, q_ref21_Same_2, n1, n2, h1, sameR]
  by_cases h2 : r.addr = s.addr
  case neg =>
    have h2' : (r.addr == s.addr) = false := by simpa using h2
    simp -implicitDefEqProofs [q_ref21_Same_1, q_ref21_Same_2, n1, n2, h1, h2, h2', ha, sameR]
  have h2' : eqI 32 (ints s.addr) (ints s.addr) = true := by rw [eqI_ints hs.addr.2 hs.addr.2]; simp
  by_cases h3 : r.n = s.n
  case neg => simp -implicitDefEqProofs [q_ref21_Same_1, q_ref21_Same_2, n1, n2, h1, h2, h2', ha, h3, sameR]
  by_cases h4 : r.done = s.done
  case neg =>
    have h4' : (r.done == s.done) = false := by simpa using h4
    simp -implicitDefEqProofs [q_ref21_Same_1, q_ref21_Same_2, n1, n2, h1, h2, h2', ha, h3, h4, h4', sameR]
  by_cases h5 : r.data = s.data
  case neg => simp -implicitDefEqProofs [q_ref21_Same_1, q_ref21_Same_2, n1, n2, h1, h2, h2', ha, h3, h4, h5, hdd, sameR]
  by_cases h6 : r.list.length = s.list.length
  case neg =>
    have h6' : r.list ≠ s.list := fun e => h6 (by rw [e])
    have h6c : ¬ (r.list.length : Int) = s.list.length := by omega
    simp -implicitDefEqProofs [h6c, q_ref21_Same_1, q_ref21_Same_2, n1, n2, h1, h2, h2', ha, h3, h4, h5, hdd, h6, h6', sameR]
  simp -implicitDefEqProofs [q_ref21_Same_1, q_ref21_Same_3, n1, n2, h1, h2, h2', ha, h3, h4, h5, hdd, h6]
  have es : sameR r s = decide (r.list = s.list) := by simp [sameR, h1, h2, h3, h4, h5]
  have hl := hr.llen
  refine X_lp (fun (i : Nat) env B => i ≤ r.list.length ∧ (∀ j, j < i → r.list[j]? = s.list[j]?) ∧ env 2 = .ptr g 0 ∧ env 3 = .ptr g1 0 ∧ env 5 = .int .i64 i ∧
      B = (H0.set g (.var 47 [.int .i64 r.code, .iarr .u8 32 (ints r.addr), .isl .u8 (ints r.data), .dsl 32 (r.list.map adrV), .int .i64 r.n, .bool r.done])).set g1 (.var 47 [.int .i64 s.code, .iarr .u8 32 (ints s.addr), .isl .u8 (ints s.data), .dsl 32 (s.list.map adrV), .int .i64 s.n, .bool s.done])) (fun i => r.list.length - i) 0
    ⟨by omega, by simp, by simp, by simp, by simp, by simp [h1, h2, h3, h4, h5]⟩ ?_
  rintro i env B ⟨hi, hj, e2, e3, e5, rfl⟩
  simp -implicitDefEqProofs [q_ref21_Same_L8, q_ref21_Same_4, q_ref21_Same_8, e2, e3, e5, n1, n2]
  refine ⟨fun hil => ?_, fun hil => ?_⟩
  · have hsl : i < s.list.length := by omega
    have hai := hr.list _ (List.getElem_mem hil)
    have hbi := hs.list _ (List.getElem_mem hsl)
    have hab := eqI_ints hai.2 hbi.2
    by_cases heq : r.list[i] = s.list[i]
    · have heq' : (r.list[i] == s.list[i]) = true := by simpa using heq
      simp -implicitDefEqProofs [q_ref21_Same_5, q_ref21_Same_7, e2, e3, e5, n1, n2, hil, hsl, adrV, hab, heq']
      refine lp_next (i + 1) ⟨by omega, fun j hj' => ?_, by simp [e2], by simp [e3], by simp [wrap_i64 (show -9223372036854775808 ≤ (i : Int) + 1 ∧ (i : Int) + 1 < 9223372036854775808 by omega)], rfl⟩ (by omega)
      by_cases hji : j = i
      · subst hji
        rw [List.getElem?_eq_getElem hil, List.getElem?_eq_getElem hsl, heq]
      · exact hj j (by omega)
    · have heq' : (r.list[i] == s.list[i]) = false := by simpa using heq
      have hne : sameR r s = false := by
        rw [es]
        simp only [decide_eq_false_iff_not]
        intro e
        exact heq (by simp only [e])
      simp -implicitDefEqProofs [q_ref21_Same_5, q_ref21_Same_6, e2, e3, e5, n1, n2, hil, hsl, adrV, hab, heq', hne]
  · rw [es]
    simp only [decide_eq_true_eq]
    apply List.ext_getElem?
    intro j
    by_cases hjr : j < r.list.length
    · exact hj j (by omega)
    · rw [List.getElem?_eq_none (by omega), List.getElem?_eq_none (by omega)]
end Go.Proofs.Ytjbiekcldkjgjaa
