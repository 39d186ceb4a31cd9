/- The walk of FilterBits. -/
import Derived.Test.YtjbiekcldkjgjaaFj
namespace Go.Proofs.Ytjbiekcldkjgjaa
open Go AVL
set_option linter.unusedVariables false
set_option linter.unusedSimpArgs false
attribute [-simp] AV.isAgg aappI aapp alen abuild

theorem miss_split {bs : List Nat} {m : List (List Nat)} {i : Nat} (h : i < m.length) (hh : hasA bs m[i] = false) : missL bs m = missL bs (m.take i) ++ m[i] :: missL bs (m.drop (i + 1)) := by
  conv => lhs; rw [← List.take_append_drop i m, List.drop_eq_getElem_cons h]
  rw [missL, List.filter_append, List.filter_cons, if_pos (by simp [hh])]
  rfl
theorem w_FilterBits_rest (n : Nat) (l m : List (List Nat)) (nb : Nat) (hn : n < 256) (hnb : szN n = nb) (hl : ∀ a ∈ l, Adr a) (hm : ∀ a ∈ m, Adr a) (hll : l.length ≤ 60) (hml : m.length ≤ 60) (h f : Nat) (env : AEnv) (A : Heap)
    (e0 : env 0 = .int .u8 n) (e1 : env 1 = .dsl 32 (adrs l)) (e2 : env 2 = .dsl 32 (adrs m)) (e9 : env 9 = .ptr f 0)
    (f1 : A f = some (.var T_filter_Filter [.own h 0 nb, .int .i64 l.length])) (f2 : A h = some (.irow T_uint8 .u8 (ints (putL (zer nb) l)))) :
    XO Try.prog (fin [.tmp 8] (.bool true)) q_law32_FilterBits_7 (.thn (.seq (.seq (.region q_law32_FilterBits_8) (.cond (.t 100) (.seq (.region q_law32_FilterBits_9) .ret) .skip)) (.seq (.region q_law32_FilterBits_10) (.seq (.region q_law32_FilterBits_11) (.seq (.seq (.region q_law32_FilterBits_12) (.block 0 (.loop q_law32_FilterBits_L22))) (.seq (.region q_law32_FilterBits_22) .ret))))) .done) env A := by
  have hsz := w_law32_size n hn
  rw [hnb] at hsz
  have nb0 : 0 < nb := by rw [← hnb]; unfold szN; omega
  have nb1 : nb ≤ 32 := by rw [← hnb]; unfold szN; omega
  obtain ⟨bs, hbs⟩ : ∃ bs, putL (zer nb) l = bs := ⟨_, rfl⟩
  have hbb : Bytes bs := hbs ▸ putL_bytes _ (zer_bytes nb)
  have hbl : bs.length = nb := by rw [← hbs]; simp
  obtain ⟨S, hS⟩ : ∃ S, setL l (8 * nb) = S := ⟨_, rfl⟩
  have hset := w_ref32_Set l (8 * nb) hl (by omega) (by omega) (by omega)
  have hone := ones_putL nb0 l
  have hbsS := putL_set nb0 l
  have hSn := (setL_spec l (8 * nb)).1
  have hSr := setL_lt (l := l) (n := 8 * nb) (by omega)
  have hSl : S.length ≤ 4 * l.length := by
    have := setL_len (8 * nb) l []
    rw [← setL, hS] at this; simpa using this
  have hhas := fun a => hasA_set nb0 l a
  rw [hS] at hset hone hbsS hSn hSr
  simp only [hbs, hS] at hhas hone hbsS
  rw [hbs] at f2
  rw [← hbl] at f1
  have c8 : ((8 * nb : Nat) : Int) = 8 * (nb : Int) := by omega
  rw [c8] at hset
  simp -implicitDefEqProofs [q_law32_FilterBits_7, e0, e1]
  refine hsz.call (.cons (.refl _) rfl .nil) rfl ?_
  simp -implicitDefEqProofs
  refine hset.call (.cons (.refl _) rfl (.cons (.refl _) rfl .nil)) fun v13 B hv13 => ?_
  simp -implicitDefEqProofs [q_law32_FilterBits_8, e9]
  have v1 := fil_vw (hv13.sub _ _ f1) (hv13.sub _ _ f2)
  refine (w_filter_Len bs _).call (.cons v1 rfl .nil) rfl ?_
  simp -implicitDefEqProofs [e1, e9]
  refine (w_filter_Size bs _ (by omega)).call (.cons v1 rfl .nil) rfl ?_
  simp -implicitDefEqProofs [e0]
  refine hsz.call (.cons (.refl _) rfl .nil) rfl ?_
  simp -implicitDefEqProofs [hbl, e9]
  refine (w_filter_Ones bs _ hbb (by omega)).call (.cons v1 rfl .nil) rfl ?_
  simp -implicitDefEqProofs [hv13.len, hone, e9]
  refine (w_filter_Bytes bs _ (by omega)).call (.cons v1 rfl .nil) rfl fun g1 hg1 => ?_
  have s1 := sub_none (c := .irow T_uint8 .u8 (ints bs)) hg1
  have hv13' := hv13.mono s1
  simp -implicitDefEqProofs [e0]
  refine hsz.call (.cons (.refl _) rfl .nil) rfl ?_
  simp -implicitDefEqProofs [hv13.agg]
  have hrb := w_ref32_Bytes S nb nb0 (by omega) hSn hSr (by omega)
  rw [← hbsS] at hrb
  refine hrb.call (.cons hv13'.vw (by rw [hv13.agg]; rfl) (.cons (.refl _) rfl .nil)) rfl fun g2 hg2 => ?_
  have s2 := sub_none (c := .irow T_uint8 .u8 (ints bs)) hg2
  have m1 := fresh_ne (set_eq' (A := B) (g := g1) (c := .irow T_uint8 .u8 (ints bs))) hg2
  simp -implicitDefEqProofs
  refine (w_ref01_Same bs bs hbb hbb).call (.cons (vw_own (t := T_uint8) (by simp [m1]) (by simp [hbl])) rfl (.cons (vw_own (t := T_uint8) (by simp) (by simp [hbl])) rfl .nil)) rfl ?_
  simp -implicitDefEqProofs [q_law32_FilterBits_10, q_law32_FilterBits_11, q_law32_FilterBits_12, e9, e2]
  have f1' := s2 _ _ (s1 _ _ (hv13.sub _ _ f1))
  have f2' := s2 _ _ (s1 _ _ (hv13.sub _ _ f2))
  have hmi := w_filter_Missing bs (l.length : Int) m hbb hm (by omega) (by omega) (by omega)
  refine hmi.call (.cons (fil_vw f1' f2') rfl (.cons (.refl _) rfl .nil)) (adrs_noF _) fun vm C hC => ?_
  have hv := (hv13'.mono s2).mono hC.sub
  have f1 := hC.sub _ _ f1'
  have f2 := hC.sub _ _ f2'
  have hCl := @hC.len
  have v1 := fil_vw f1 f2
  clear hmi f1' f2' s1 s2 hv13 hv13' m1 hset hrb
  simp -implicitDefEqProofs
  refine X_lp (fun (i : Nat) env B => i ≤ m.length ∧ env 0 = .int .u8 n ∧ env 2 = .dsl 32 (adrs m) ∧ env 9 = .ptr f 0 ∧ env 13 = v13 ∧ env 14 = vm ∧ env 15 = .int .i64 (missL bs (m.take i)).length ∧ env 16 = .int .i64 i ∧ B = C) (fun i => m.length - i) 0
    ⟨by omega, by simp [e0], by simp [e2], by simp [e9], by simp, by simp, by simp [missL], by simp, rfl⟩ ?_
  rintro i env B ⟨hi, e0, e2, e9, e13, e14, e15, e16, rfl⟩
  simp -implicitDefEqProofs (disch := first | omega | simp) [q_law32_FilterBits_L22, q_law32_FilterBits_13, q_law32_FilterBits_22, e0, e2, e9, e13, e14, e15, e16]
  refine ⟨fun him => ?_, fun him => ?_⟩
  · obtain ⟨ha, hal⟩ := hm _ (List.getElem_mem him)
    have k1 := w_filter_Has bs (l.length : Int) m[i] hbb ha hal (by omega) (by omega)
    have k2 := w_ref32_Has S m[i] (8 * nb) ⟨ha, hal⟩ (by omega) (by omega) (by omega)
    rw [← hhas, c8] at k2
    have ht := miss_take (bs := bs) him
    simp -implicitDefEqProofs (disch := first | omega | simp) [q_law32_FilterBits_14, e0, e2, e9, e13, e14, e15, e16, him, adrV]
    refine hsz.call (.cons (.refl _) rfl .nil) rfl ?_
    simp -implicitDefEqProofs [hv.agg, Sub_refl]
    refine k2.call (.cons hv.vw (by rw [hv.agg]; rfl) (.cons (.refl _) rfl (.cons (.refl _) rfl .nil))) rfl ?_
    simp -implicitDefEqProofs [q_law32_FilterBits_15, e9, e2, e16, him, adrV]
    refine k1.call (.cons v1 rfl (.cons (.refl _) rfl .nil)) rfl ?_
    have hml2 : (missL bs (m.take i)).length ≤ m.length := Nat.le_trans (List.length_filter_le _ _) (List.length_take_le' _ _)
    cases hh : hasA bs m[i] with
    | true =>
      simp -implicitDefEqProofs (disch := first | omega | simp) [q_law32_FilterBits_17, q_law32_FilterBits_21, e16, wrap_i64]
      refine lp_next (i + 1) ⟨by omega, by simp [e0], by simp [e2], by simp [e9], by simp [e13], by simp [e14], ?_, by simp, rfl⟩ (by omega)
      rw [ht, if_pos hh]; simp [e15]
    | false =>
      have hsp := miss_split him hh
      obtain ⟨k, hk⟩ : ∃ k, (missL bs (m.take i)).length = k := ⟨_, rfl⟩
      have hkl : k < (missL bs m).length := by rw [hsp, List.length_append, List.length_cons]; omega
      have hget : (missL bs m)[k] = m[i] := by
        have : (missL bs m)[k]? = some m[i] := by rw [hsp, List.getElem?_append_right (by omega), hk, Nat.sub_self]; rfl
        rw [List.getElem?_eq_getElem hkl] at this
        injection this
      have heq : eqI 32 (ints m[i]) (ints m[i]) = true := by rw [eqI_ints hal hal]; simp
      have hkl' : ¬ ((missL bs m).length : Int) ≤ k := by omega
      have hkl'' : ¬ (missL bs m).length ≤ k := by omega
      rw [hk] at e15 hml2
      obtain ⟨gm, rfl, _, hgm⟩ := hC.own.resolve_left (fun ⟨_, h⟩ => by
        have := congrArg List.length h
        rw [adrs_length, List.length_nil] at this; omega)
      simp -implicitDefEqProofs (disch := first | omega | simp) [q_law32_FilterBits_17, q_law32_FilterBits_18, q_law32_FilterBits_20, q_law32_FilterBits_21, e0, e2, e9, e13, e14, e15, e16, wrap_i64, heq, hkl', hkl'', hkl, hget, hgm, him, adrV]
      refine lp_next (i + 1) ⟨by omega, by simp [e0], by simp [e2], by simp [e9], by simp [e13], by simp [e14], ?_, by simp, rfl⟩ (by omega)
      rw [ht, if_neg (by simp [hh]), List.length_append, hk]; simp
  · have : i = m.length := by omega
    subst this
    rw [List.take_length]
    simp -implicitDefEqProofs [hC.len]
    refine w_law32_works.call .nil rfl ?_
    simp -implicitDefEqProofs
theorem w_FilterBits (n : Nat) (l m : List (List Nat)) (odd : Int) (hn : n < 256) (hl : ∀ a ∈ l, Adr a) (hm : ∀ a ∈ m, Adr a) (ho : -9223372036854775808 ≤ odd ∧ odd < 9223372036854775808) : Gives Try.prog F_law32_FilterBits [.int .u8 n, .dsl 32 (adrs l), .dsl 32 (adrs m), .int .i64 odd] (.bool true) := by
  by_cases hbig : 60 < l.length
  · have hb' : (60 : Int) < l.length := by omega
    refine v_law32_FilterBits (by simp) ?_
    simp -implicitDefEqProofs [a_law32_FilterBits, q_law32_FilterBits_0, q_law32_FilterBits_1, q_law32_FilterBits_2, hb', hbig]
    refine w_law32_works.call .nil rfl ?_
    simp -implicitDefEqProofs
  have hb' : ¬ (60 : Int) < l.length := by omega
  by_cases hbig2 : 60 < m.length
  · have hb2' : (60 : Int) < m.length := by omega
    refine v_law32_FilterBits (by simp) ?_
    simp -implicitDefEqProofs [a_law32_FilterBits, q_law32_FilterBits_0, q_law32_FilterBits_1, q_law32_FilterBits_2, hb', hbig, hb2', hbig2]
    refine w_law32_works.call .nil rfl ?_
    simp -implicitDefEqProofs
  have hb2' : ¬ (60 : Int) < m.length := by omega
  have hsz := w_law32_size n hn
  obtain ⟨nb, hnb⟩ : ∃ nb, szN n = nb := ⟨_, rfl⟩
  rw [hnb] at hsz
  have nb0 : 0 < nb := by rw [← hnb]; unfold szN; omega
  have nb1 : nb ≤ 32 := by rw [← hnb]; unfold szN; omega
  refine v_law32_FilterBits (by simp) ?_
  simp -implicitDefEqProofs [a_law32_FilterBits, q_law32_FilterBits_0, q_law32_FilterBits_1, q_law32_FilterBits_3, hb', hbig, hb2', hbig2]
  refine hsz.call (.cons (.refl _) rfl .nil) rfl ?_
  simp -implicitDefEqProofs
  refine c_Of nb0 (by omega) hl (by omega) (.cons (.refl _) rfl (.cons (.refl _) rfl .nil)) fun h f hh hf hne => ?_
  have f1 := FilH_f (h := h) (f := f) (bs := putL (zer nb) l) (n := l.length) (A := H0)
  have f2 := FilH_h (bs := putL (zer nb) l) (n := l.length) (A := H0) hne
  rw [putL_length, zer_length] at f1
  generalize FilH h f (putL (zer nb) l) l.length H0 = A at *
  simp -implicitDefEqProofs [q_law32_FilterBits_4]
  by_cases hok : okS odd
  · obtain ⟨ob, rfl⟩ : ∃ ob : Nat, odd = 8 * ob := ⟨(odd / 8).toNat, by unfold okS at hok; omega⟩
    have ob0 : 0 < ob := by unfold okS at hok; omega
    have ob1 : ob ≤ 2048 := by unfold okS at hok; omega
    have d4 : (8 * (ob : Int)).tmod 8 = 0 := by rw [← Int.dvd_iff_tmod_eq_zero]; omega
    have g1 : (8 : Int) ≤ 8 * (ob : Int) := by omega
    have g2 : 8 * (ob : Int) ≤ 16384 := by omega
    have w0 : IntKind.i64.wrap 0 = 0 := by decide
    refine c_New ob0 ob1 fun h2 f2' hh2 hf2 hne2 => ?_
    have s1 := FilH_sub (bs := zer ob) (n := 0) hh2 hf2 hne2
    simp -implicitDefEqProofs [q_law32_FilterBits_5, d4, g1, g2, w0]
    exact w_FilterBits_rest n l m nb hn hnb hl hm (by omega) (by omega) h f _ _ (by simp) (by simp) (by simp) (by simp) (s1 _ _ f1) (s1 _ _ f2)
  · refine (w_filter_New_bad ho hok).call (.cons (.refl _) rfl .nil) rfl ?_
    by_cases g1 : (8 : Int) ≤ odd
    · by_cases g2 : odd ≤ 16384
      · have d4 : ¬ odd.tmod 8 = 0 := by
          rw [← Int.dvd_iff_tmod_eq_zero]; unfold okS at hok; omega
        have w : IntKind.i64.wrap (odd.tmod 8) = odd.tmod 8 := by
          rw [Int.tmod_eq_emod_of_nonneg (by omega)]; exact wrap_i64 (by omega)
        simp -implicitDefEqProofs [q_law32_FilterBits_5, g1, g2, d4, w]
        exact w_FilterBits_rest n l m nb hn hnb hl hm (by omega) (by omega) h f _ _ (by simp) (by simp) (by simp) (by simp) f1 f2
      · simp -implicitDefEqProofs [q_law32_FilterBits_5, g1, g2]
        exact w_FilterBits_rest n l m nb hn hnb hl hm (by omega) (by omega) h f _ _ (by simp) (by simp) (by simp) (by simp) f1 f2
    · simp -implicitDefEqProofs [q_law32_FilterBits_5, g1]
      exact w_FilterBits_rest n l m nb hn hnb hl hm (by omega) (by omega) h f _ _ (by simp) (by simp) (by simp) (by simp) f1 f2
end Go.Proofs.Ytjbiekcldkjgjaa
