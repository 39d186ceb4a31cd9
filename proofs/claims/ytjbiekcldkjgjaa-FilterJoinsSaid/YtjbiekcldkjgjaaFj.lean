/- The walk of FilterKeeps. -/
import Derived.Test.YtjbiekcldkjgjaaFi
namespace Go.Proofs.Ytjbiekcldkjgjaa
open Go AVL
set_option linter.unusedVariables false
set_option linter.unusedSimpArgs false
attribute [-simp] AV.isAgg aappI aapp alen abuild

theorem putL_same {nb : Nat} (h : 0 < nb) {l m : List (List Nat)} (hlm : ∀ a, a ∈ l ↔ a ∈ m) : putL (zer nb) l = putL (zer nb) m := by
  refine bits_ext (putL_bytes _ (zer_bytes nb)) (putL_bytes _ (zer_bytes nb)) (by simp) fun b _ => ?_
  rw [putL_has h, putL_has h]
  apply decide_eq_decide.2
  simp only [List.mem_flatMap, hlm]
theorem has_put {nb : Nat} (h : 0 < nb) {l : List (List Nat)} {a : List Nat} (ha : a ∈ l) : hasA (putL (zer nb) l) a = true := by
  have key : ∀ i, i < 4 → hasB (putL (zer nb) l) (prb a i (8 * nb)) = true := fun i hi => by
    rw [putL_has h]
    apply decide_eq_true
    exact List.mem_flatMap.2 ⟨a, ha, List.mem_map.2 ⟨i, by simp [hi], rfl⟩⟩
  unfold hasA
  rw [putL_length, zer_length, key 0 (by decide), key 1 (by decide), key 2 (by decide), key 3 (by decide)]
  rfl
theorem miss_put {nb : Nat} (h : 0 < nb) (l : List (List Nat)) : missL (putL (zer nb) l) l = [] := by
  unfold missL
  rw [List.filter_eq_nil_iff]
  intro a ha
  simp [has_put h ha]
theorem w_FilterKeeps (n : Nat) (l : List (List Nat)) (hn : n < 256) (hl : ∀ a ∈ l, Adr a) : Gives Try.prog F_law32_FilterKeeps [.int .u8 n, .dsl 32 (adrs l)] (.bool true) := by
  by_cases hbig : 200 < l.length
  · have hb' : (200 : Int) < l.length := by omega
    refine v_law32_FilterKeeps (by simp) ?_
    simp -implicitDefEqProofs [a_law32_FilterKeeps, q_law32_FilterKeeps_0, q_law32_FilterKeeps_1, q_law32_FilterKeeps_2, hb', hbig]
    refine w_law32_works.call .nil rfl ?_
    simp -implicitDefEqProofs
  have hb' : ¬ (200 : Int) < l.length := by omega
  have hsz := w_law32_size n hn
  obtain ⟨nb, hnb⟩ : ∃ nb, szN n = nb := ⟨_, rfl⟩
  rw [hnb] at hsz
  have nb0 : 0 < nb := by rw [← hnb]; unfold szN; omega
  have nb1 : nb ≤ 32 := by rw [← hnb]; unfold szN; omega
  refine v_law32_FilterKeeps (by simp) ?_
  simp -implicitDefEqProofs [a_law32_FilterKeeps, q_law32_FilterKeeps_0, q_law32_FilterKeeps_1, q_law32_FilterKeeps_3, hb', hbig]
  refine hsz.call (.cons (.refl _) rfl .nil) rfl ?_
  simp -implicitDefEqProofs
  refine c_New nb0 (by omega) fun h f hh hf hne => ?_
  simp -implicitDefEqProofs [q_law32_FilterKeeps_4]
  refine hsz.call (.cons (.refl _) rfl .nil) rfl ?_
  simp -implicitDefEqProofs
  refine c_New nb0 (by omega) fun k g hk hg hne2 => ?_
  have n1 := fresh_ne FilH_f hk
  have n2 := fresh_ne FilH_f hg
  have n3 := fresh_ne (FilH_h hne) hk
  have n4 := fresh_ne (FilH_h hne) hg
  have s1 := FilH_sub (bs := zer nb) (n := 0) hk hg hne2
  have f1 := s1 _ _ FilH_f
  have f2 := s1 _ _ (FilH_h hne)
  have f3 : FilH k g (zer nb) 0 (FilH h f (zer nb) 0 H0) g = _ := FilH_f
  have f4 : FilH k g (zer nb) 0 (FilH h f (zer nb) 0 H0) k = _ := FilH_h hne2
  generalize FilH k g (zer nb) 0 (FilH h f (zer nb) 0 H0) = A at *
  simp -implicitDefEqProofs [q_law32_FilterKeeps_5, q_law32_FilterKeeps_7]
  refine X_lp (fun (i : Nat) env B => i ≤ l.length ∧ env 1 = .dsl 32 (adrs l) ∧ env 5 = .ptr f 0 ∧ env 7 = .ptr g 0 ∧ env 9 = .int .i64 i ∧
      B f = some (.var T_filter_Filter [.own h 0 nb, .int .i64 i]) ∧ B h = some (.irow T_uint8 .u8 (ints (putL (zer nb) (l.take i)))) ∧
      B g = some (.var T_filter_Filter [.own k 0 nb, .int .i64 i]) ∧ B k = some (.irow T_uint8 .u8 (ints (putL (zer nb) (l.reverse.take i))))) (fun i => l.length - i) 0
    ⟨by omega, by simp, by simp, by simp, by simp, by simpa using f1, f2, by simpa using f3, f4⟩ ?_
  rintro i env B ⟨hi, e1, e5, e7, e9, b1, b2, b3, b4⟩
  simp -implicitDefEqProofs (disch := first | omega | simp) [q_law32_FilterKeeps_L12, q_law32_FilterKeeps_8, q_law32_FilterKeeps_12, e1, e5, e7, e9]
  refine ⟨fun hil => ?_, fun hil => ?_⟩
  · have hir : i < l.reverse.length := by simpa using hil
    obtain ⟨ha, hal⟩ := hl _ (List.getElem_mem hil)
    have hj : l.length - 1 - i < l.length := by omega
    obtain ⟨hc, hcl⟩ := hl _ (List.getElem_mem hj)
    have ej : ((l.length : Int) - 1 - i).toNat = l.length - 1 - i := by omega
    have hrev : l.reverse[i] = l[l.length - 1 - i] := List.getElem_reverse hir
    simp -implicitDefEqProofs (disch := first | omega | simp) [q_law32_FilterKeeps_9, q_law32_FilterKeeps_10, q_law32_FilterKeeps_11, e1, e5, e7, e9, hil, adrV]
    refine w_filter_Put (h := h) (t := T_filter_Filter) (n := i) (bs := putL (zer nb) (l.take i)) (putL_bytes _ (zer_bytes nb)) (by simpa using nb0) (by simp; omega) (by omega) ha hal (by simp [b1]) b2 ?_
    simp -implicitDefEqProofs (disch := first | omega | simp) [e1, e5, e7, e9, ej, hj, adrV, wrap_i64]
    refine ⟨by omega, ?_⟩
    refine w_filter_Put (h := k) (t := T_filter_Filter) (n := i) (bs := putL (zer nb) (l.reverse.take i)) (putL_bytes _ (zer_bytes nb)) (by simpa using nb0) (by simp; omega) (by omega) hc hcl (by simp [Ne.symm n2, Ne.symm n4, b3]) (by simp [Ne.symm n1, Ne.symm n3, b4]) ?_
    simp -implicitDefEqProofs (disch := first | omega | simp) [e9, wrap_i64]
    refine lp_next (i + 1) ⟨by omega, by simp [e1], by simp [e5], by simp [e7], by simp, by simp [n1, n2], ?_, by simp, ?_⟩ (by omega)
    · rw [putL_take _ hil]; simp [n3, n4, Ne.symm hne]
    · rw [putL_take _ hir, hrev]; simp [Ne.symm hne2]
  · have : i = l.length := by omega
    subst this
    rw [List.take_length] at b2
    rw [show l.length = l.reverse.length by simp, List.take_length, ← putL_same nb0 (l := l) (m := l.reverse) (by simp)] at b4
    obtain ⟨bs, hbs⟩ : ∃ bs, putL (zer nb) l = bs := ⟨_, rfl⟩
    have hbb : Bytes bs := hbs ▸ putL_bytes _ (zer_bytes nb)
    have hbl : bs.length = nb := by rw [← hbs]; simp
    have hbh : ∀ a ∈ l, hasA bs a = true := fun a ha => hbs ▸ has_put nb0 ha
    have hbm : missL bs l = [] := hbs ▸ miss_put nb0 l
    rw [hbs] at b2 b4
    rw [← hbl] at b1 b3
    have v1 := fil_vw b1 b2
    have v2 := fil_vw b3 b4
    refine X_lp (fun (i : Nat) env B' => i ≤ l.length ∧ env 1 = .dsl 32 (adrs l) ∧ env 5 = .ptr f 0 ∧ env 7 = .ptr g 0 ∧ env 10 = .int .i64 i ∧ B' = B) (fun i => l.length - i) 0
      ⟨by omega, by simp [e1], by simp [e5], by simp [e7], by simp, rfl⟩ ?_
    rintro i env B ⟨hi, e1, e5, e7, e10, rfl⟩
    simp -implicitDefEqProofs (disch := first | omega | simp) [q_law32_FilterKeeps_L17, q_law32_FilterKeeps_13, q_law32_FilterKeeps_17, e1, e5, e7, e10]
    refine ⟨fun hil => ?_, fun hil => ?_⟩
    · have hm := List.getElem_mem hil
      obtain ⟨ha, hal⟩ := hl _ hm
      have w1 := fun n => w_filter_Has bs n l[i] hbb ha hal (by omega) (by omega)
      rw [hbh _ hm] at w1
      simp -implicitDefEqProofs (disch := first | omega | simp) [q_law32_FilterKeeps_14, q_law32_FilterKeeps_16, e1, e5, e7, e10, hil, adrV]
      refine (w1 _).call (.cons v1 rfl (.cons (.refl _) rfl .nil)) rfl ?_
      simp -implicitDefEqProofs (disch := first | omega | simp) [e1, e5, e7, e10, hil, adrV]
      refine (w1 _).call (.cons v2 rfl (.cons (.refl _) rfl .nil)) rfl ?_
      simp -implicitDefEqProofs (disch := first | omega | simp) [e10, wrap_i64]
      exact lp_next (i + 1) ⟨by omega, by simp [e1], by simp [e5], by simp [e7], by simp, rfl⟩ (by omega)
    · refine (w_filter_Bytes bs _ (by omega)).call (.cons v1 rfl .nil) rfl fun g1 hg1 => ?_
      simp -implicitDefEqProofs [e7]
      have v2' := fil_vw ((sub_none (c := .irow T_uint8 .u8 (ints bs)) hg1) _ _ b3) ((sub_none hg1) _ _ b4)
      refine (w_filter_Bytes bs _ (by omega)).call (.cons v2' rfl .nil) rfl fun g2 hg2 => ?_
      simp -implicitDefEqProofs
      have m1 := fresh_ne (set_eq' (A := B) (g := g1) (c := .irow T_uint8 .u8 (ints bs))) hg2
      refine (w_ref01_Same bs bs hbb hbb).call (.cons (vw_own (t := T_uint8) (by simp [m1]) (by simp)) rfl (.cons (vw_own (t := T_uint8) (by simp) (by simp)) rfl .nil)) rfl ?_
      simp -implicitDefEqProofs [e1, e5]
      have hmi := w_filter_Missing bs (l.length : Int) l hbb hl (by omega) (by omega) (by omega)
      rw [hbm] at hmi
      have v3 := fil_vw ((sub_none (c := .irow T_uint8 .u8 (ints bs)) hg2) _ _ ((sub_none (c := .irow T_uint8 .u8 (ints bs)) hg1) _ _ b1)) ((sub_none hg2) _ _ ((sub_none hg1) _ _ b2))
      refine hmi.call (.cons v3 rfl (.cons (.refl _) rfl .nil)) (adrs_noF _) fun vm C hC => ?_
      simp -implicitDefEqProofs [hC.len, adrs]
      refine w_law32_works.call .nil rfl ?_
      simp -implicitDefEqProofs
end Go.Proofs.Ytjbiekcldkjgjaa
