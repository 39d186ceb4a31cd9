/- The walk of FilterJoins. -/
import Derived.Test.YtjbiekcldkjgjaaFj
namespace Go.Proofs.Ytjbiekcldkjgjaa
open Go AVL
set_option linter.unusedVariables false
set_option linter.unusedSimpArgs false
attribute [-simp] AV.isAgg aappI aapp alen abuild

theorem orB_has {bs cs : List Nat} (hl : bs.length = cs.length) (b : Nat) : ∀ i, i ≤ bs.length → hasB (orB bs cs i) b = (hasB bs b || (decide (b / 8 < i) && hasB cs b))
  | 0, _ => by simp [orB]
  | i + 1, hi => by
    have ih := orB_has hl b i (by omega)
    unfold hasB at ih ⊢
    rw [orB, List.getElem?_set]
    by_cases e : i = b / 8
    · subst e
      have h1 : ¬ b / 8 < b / 8 := by omega
      have h2 : b / 8 < b / 8 + 1 := by omega
      rw [if_pos rfl, if_pos (by rw [orB_length]; omega), Option.getD_some, Nat.testBit_or, ih]
      simp [h1]
    · rw [if_neg e, ih]
      have : (b / 8 < i + 1) ↔ (b / 8 < i) := by omega
      simp [this]
theorem orB_putL {nb : Nat} (h : 0 < nb) (l k : List (List Nat)) : orB (putL (zer nb) l) (putL (zer nb) k) nb = putL (zer nb) (l ++ k) := by
  refine bits_ext (orB_bytes (putL_bytes _ (zer_bytes nb)) (putL_bytes _ (zer_bytes nb)) _) (putL_bytes _ (zer_bytes nb)) (by simp) fun b hb => ?_
  have hb' : b / 8 < nb := by simp at hb; omega
  rw [orB_has (by simp) b nb (by simp), putL_has h, putL_has h, putL_has h]
  simp [hb', List.flatMap_append]
theorem del_keep {A : Heap} {x g1 g2 : Nat} {c d : Cont} (h : A x = some c) (h1 : x ≠ g1) (h2 : x ≠ g2) : ((A.del g1).set g2 d) x = some c := by rw [set_ne' h2, del_app, if_neg h1]; exact h
theorem adrs_sts (l : List (List Nat)) : AV.sts (adrs l) = true := by
  induction l with
  | nil => rfl
  | cons a l ih => simpa [adrs, adrV] using ih
theorem w_FilterJoins (n m : Nat) (l k : List (List Nat)) (hn : n < 256) (hm : m < 256) (hl : ∀ a ∈ l, Adr a) (hk : ∀ a ∈ k, Adr a) : Gives Try.prog F_law32_FilterJoins [.int .u8 n, .int .u8 m, .dsl 32 (adrs l), .dsl 32 (adrs k)] (.bool true) := by
  by_cases hbig : 60 < l.length
  · have hb' : (60 : Int) < l.length := by omega
    refine v_law32_FilterJoins (by simp) ?_
    simp -implicitDefEqProofs [a_law32_FilterJoins, q_law32_FilterJoins_0, q_law32_FilterJoins_1, q_law32_FilterJoins_2, hb', hbig]
    refine w_law32_works.call .nil rfl ?_
    simp -implicitDefEqProofs
  have hb' : ¬ (60 : Int) < l.length := by omega
  by_cases hbig2 : 60 < k.length
  · have hb2' : (60 : Int) < k.length := by omega
    refine v_law32_FilterJoins (by simp) ?_
    simp -implicitDefEqProofs [a_law32_FilterJoins, q_law32_FilterJoins_0, q_law32_FilterJoins_1, q_law32_FilterJoins_2, hb', hbig, hb2', hbig2]
    refine w_law32_works.call .nil rfl ?_
    simp -implicitDefEqProofs
  have hb2' : ¬ (60 : Int) < k.length := by omega
  have hsz := w_law32_size n hn
  have hsm := w_law32_size m hm
  obtain ⟨nb, hnb⟩ : ∃ nb, szN n = nb := ⟨_, rfl⟩
  obtain ⟨mb, hmb⟩ : ∃ mb, szN m = mb := ⟨_, rfl⟩
  rw [hnb] at hsz
  rw [hmb] at hsm
  have nb0 : 0 < nb := by rw [← hnb]; unfold szN; omega
  have nb1 : nb ≤ 32 := by rw [← hnb]; unfold szN; omega
  have mb0 : 0 < mb := by rw [← hmb]; unfold szN; omega
  have mb1 : mb ≤ 32 := by rw [← hmb]; unfold szN; omega
  refine v_law32_FilterJoins (by simp) ?_
  simp -implicitDefEqProofs [a_law32_FilterJoins, q_law32_FilterJoins_0, q_law32_FilterJoins_1, q_law32_FilterJoins_3, hb', hbig, hb2', hbig2]
  refine hsz.call (.cons (.refl _) rfl .nil) rfl ?_
  simp -implicitDefEqProofs
  refine c_Of nb0 (by omega) hl (by omega) (.cons (.refl _) rfl (.cons (.refl _) rfl .nil)) fun h f hh hf hne => ?_
  simp -implicitDefEqProofs [q_law32_FilterJoins_4]
  refine hsm.call (.cons (.refl _) rfl .nil) rfl ?_
  simp -implicitDefEqProofs
  refine c_Of mb0 (by omega) hk (by omega) (.cons (.refl _) rfl (.cons (.refl _) rfl .nil)) fun j g hj hg hne2 => ?_
  obtain ⟨bs, hbs⟩ : ∃ bs, putL (zer nb) l = bs := ⟨_, rfl⟩
  have hbb : Bytes bs := hbs ▸ putL_bytes _ (zer_bytes nb)
  have hbl : bs.length = nb := by rw [← hbs]; simp
  obtain ⟨cs, hcs⟩ : ∃ cs, putL (zer mb) k = cs := ⟨_, rfl⟩
  have hcb : Bytes cs := hcs ▸ putL_bytes _ (zer_bytes mb)
  have hcl : cs.length = mb := by rw [← hcs]; simp
  rw [hbs] at hj hg ⊢
  rw [hcs]
  have n1 := fresh_ne FilH_f hj
  have n2 := fresh_ne FilH_f hg
  have n3 := fresh_ne (FilH_h hne) hj
  have n4 := fresh_ne (FilH_h hne) hg
  have s1 := FilH_sub (bs := cs) (n := k.length) hj hg hne2
  have f1 := s1 _ _ FilH_f
  have f2 := s1 _ _ (FilH_h hne)
  have f3 : FilH j g cs k.length (FilH h f bs l.length H0) g = _ := FilH_f
  have f4 : FilH j g cs k.length (FilH h f bs l.length H0) j = _ := FilH_h hne2
  generalize FilH j g cs k.length (FilH h f bs l.length H0) = A at *
  simp -implicitDefEqProofs [q_law32_FilterJoins_5, q_law32_FilterJoins_6, aapp, adrs_sts]
  refine ⟨by omega, fun g1 hg1 => ⟨by omega, fun g2 h21 h12 hg2 => ?_⟩⟩
  have r1 := fresh_ne f1 hg1
  have r2 := fresh_ne f2 hg1
  have r3 := fresh_ne f3 hg1
  have r4 := fresh_ne f4 hg1
  have t1 := fresh_ne f1 hg2
  have t2 := fresh_ne f2 hg2
  have t3 := fresh_ne f3 hg2
  have t4 := fresh_ne f4 hg2
  have hrow : List.take l.length (adrs l) ++ adrs k = adrs (l ++ k) := by rw [adrs_append, List.take_of_length_le (by simp)]
  rw [hrow]
  have hr : ((A.del g1).set g2 (.row 39 32 (adrs (l ++ k)))) g2 = some (.row 39 32 (adrs (l ++ k))) := set_eq'
  have hv : Vw ((A.del g1).set g2 (.row 39 32 (adrs (l ++ k)))) (.own g2 0 (l.length + k.length)) (.dsl 32 (adrs (l ++ k))) :=
    .ownR (i := 0) (n := l.length + k.length) set_eq' (by simp) (by rw [List.drop_zero, List.take_of_length_le (by simp)]; exact Vws.refls _)
  have f1 := del_keep (d := .row 39 32 (adrs (l ++ k))) f1 r1 t1
  have f2 := del_keep (d := .row 39 32 (adrs (l ++ k))) f2 r2 t2
  have f3 := del_keep (d := .row 39 32 (adrs (l ++ k))) f3 r3 t3
  have f4 := del_keep (d := .row 39 32 (adrs (l ++ k))) f4 r4 t4
  generalize (A.del g1).set g2 (.row 39 32 (adrs (l ++ k))) = B at *
  simp -implicitDefEqProofs [q_law32_FilterJoins_7]
  refine hsz.call (.cons (.refl _) rfl .nil) rfl ?_
  simp -implicitDefEqProofs
  have hlk : ∀ a ∈ l ++ k, Adr a := fun a ha => (List.mem_append.1 ha).elim (hl a) (hk a)
  refine c_Of nb0 (by omega) hlk (by simp; omega) (.cons (.refl _) rfl (.cons hv rfl .nil)) fun p q hp hq hne3 => ?_
  obtain ⟨ds, hds⟩ : ∃ ds, putL (zer nb) (l ++ k) = ds := ⟨_, rfl⟩
  have hdb : Bytes ds := hds ▸ putL_bytes _ (zer_bytes nb)
  have hdl : ds.length = nb := by rw [← hds]; simp
  rw [hds]
  have s3 := FilH_sub (bs := ds) (n := (l ++ k).length) hp hq hne3
  have u1 := fresh_ne f1 hp
  have u2 := fresh_ne f2 hp
  have u3 := fresh_ne f1 hq
  have u4 := fresh_ne f2 hq
  have f1 := s3 _ _ f1
  have f2 := s3 _ _ f2
  have f3 := s3 _ _ f3
  have f4 := s3 _ _ f4
  have f5 : FilH p q ds (l ++ k).length B q = _ := FilH_f
  have f6 : FilH p q ds (l ++ k).length B p = _ := FilH_h hne3
  clear s3 hp hq
  generalize FilH p q ds (l ++ k).length B = C at *
  simp -implicitDefEqProofs [q_law32_FilterJoins_8, q_law32_FilterJoins_10]
  refine (w_filter_Bytes bs _ (by omega)).call (.cons (fil_vw f1 f2) rfl .nil) rfl fun gw hgw => ?_
  have x1 := fresh_ne f1 hgw
  have x2 := fresh_ne f2 hgw
  have s4 := sub_none (c := .irow T_uint8 .u8 (ints bs)) hgw
  have f1 := s4 _ _ f1
  have f2 := s4 _ _ f2
  have f3 := s4 _ _ f3
  have f4 := s4 _ _ f4
  have f5 := s4 _ _ f5
  have f6 := s4 _ _ f6
  have f7 : C.set gw (.irow T_uint8 .u8 (ints bs)) gw = _ := set_eq'
  clear s4 hgw
  generalize C.set gw (.irow T_uint8 .u8 (ints bs)) = D at *
  simp -implicitDefEqProofs [q_law32_FilterJoins_11]
  by_cases hnm : nb = mb
  · subst hnm
    have hor : orB bs cs bs.length = ds := by rw [hbl, ← hbs, ← hcs, ← hds]; exact orB_putL nb0 l k
    refine w_filter_Join hbb hcb (by omega) f1 f3 f2 f4 n3 n2 (by omega) (by omega) (by omega) ?_
    rw [hor]
    simp -implicitDefEqProofs [q_law32_FilterJoins_12]
    refine hsz.call (.cons (.refl _) rfl .nil) rfl ?_
    simp -implicitDefEqProofs
    refine hsm.call (.cons (.refl _) rfl .nil) rfl ?_
    have e1 : ((D.set h (.irow T_uint8 .u8 (ints ds))).set f (.var T_filter_Filter [.own h 0 bs.length, .int .i64 (l.length + k.length)])) f = some (.var T_filter_Filter [.own h 0 ds.length, .int .i64 (l.length + k.length)]) := by rw [hdl, hbl]; exact set_eq'
    have e2 : ((D.set h (.irow T_uint8 .u8 (ints ds))).set f (.var T_filter_Filter [.own h 0 bs.length, .int .i64 (l.length + k.length)])) h = some (.irow T_uint8 .u8 (ints ds)) := by rw [set_ne' (Ne.symm hne)]; exact set_eq'
    have e3 : ((D.set h (.irow T_uint8 .u8 (ints ds))).set f (.var T_filter_Filter [.own h 0 bs.length, .int .i64 (l.length + k.length)])) q = some (.var T_filter_Filter [.own p 0 ds.length, .int .i64 (l ++ k).length]) := by rw [set_ne' (Ne.symm u3), set_ne' (Ne.symm u4)]; exact f5
    have e4 : ((D.set h (.irow T_uint8 .u8 (ints ds))).set f (.var T_filter_Filter [.own h 0 bs.length, .int .i64 (l.length + k.length)])) p = some (.irow T_uint8 .u8 (ints ds)) := by rw [set_ne' (Ne.symm u1), set_ne' (Ne.symm u2)]; exact f6
    generalize (D.set h (.irow T_uint8 .u8 (ints ds))).set f (.var T_filter_Filter [.own h 0 bs.length, .int .i64 (l.length + k.length)]) = E at *
    simp -implicitDefEqProofs [q_law32_FilterJoins_14]
    refine (w_filter_Bytes ds _ (by omega)).call (.cons (fil_vw e1 e2) rfl .nil) rfl fun gx hgx => ?_
    simp -implicitDefEqProofs
    have s5 := sub_none (c := .irow T_uint8 .u8 (ints ds)) hgx
    refine (w_filter_Bytes ds _ (by omega)).call (.cons (fil_vw (s5 _ _ e3) (s5 _ _ e4)) rfl .nil) rfl fun gy hgy => ?_
    simp -implicitDefEqProofs
    have s6 := sub_none (c := .irow T_uint8 .u8 (ints ds)) hgy
    refine (w_ref01_Same ds ds hdb hdb).call (.cons (vw_own (s6 _ _ set_eq') (by simp)) rfl (.cons (vw_own (t := T_uint8) (by simp) (by simp)) rfl .nil)) rfl ?_
    simp -implicitDefEqProofs
    refine (w_filter_Len ds _).call (.cons (fil_vw (s6 _ _ (s5 _ _ e1)) (s6 _ _ (s5 _ _ e2))) rfl .nil) rfl ?_
    simp -implicitDefEqProofs
    refine w_law32_works.call .nil rfl ?_
    simp -implicitDefEqProofs
  · refine w_filter_Join_bad (by omega) (by omega) f1 f3 (by omega) ?_
    have hq : ¬ (8 * (nb : Int) = 8 * mb) := by omega
    simp -implicitDefEqProofs [q_law32_FilterJoins_12]
    refine hsz.call (.cons (.refl _) rfl .nil) rfl ?_
    simp -implicitDefEqProofs
    refine hsm.call (.cons (.refl _) rfl .nil) rfl ?_
    simp -implicitDefEqProofs [q_law32_FilterJoins_13, hq, hnm]
    refine (w_filter_Bytes bs _ (by omega)).call (.cons (fil_vw f1 f2) rfl .nil) rfl fun gx hgx => ?_
    have y1 := fresh_ne f7 hgx
    have s5 := sub_none (c := .irow T_uint8 .u8 (ints bs)) hgx
    simp -implicitDefEqProofs
    refine (w_ref01_Same bs bs hbb hbb).call (.cons (vw_own (t := T_uint8) (by simp) (by simp)) rfl (.cons (vw_own (s5 _ _ f7) (by simp)) rfl .nil)) rfl ?_
    simp -implicitDefEqProofs
    refine (w_filter_Len bs _).call (.cons (fil_vw (s5 _ _ f1) (s5 _ _ f2)) rfl .nil) rfl ?_
    simp -implicitDefEqProofs
    refine w_law32_works.call .nil rfl ?_
    simp -implicitDefEqProofs
end Go.Proofs.Ytjbiekcldkjgjaa
