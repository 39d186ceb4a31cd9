/- The walks of the filter's Missing, and of the law's size and works. -/
import Derived.Test.YtjbiekcldkjgjaaFh
namespace Go.Proofs.Ytjbiekcldkjgjaa
open Go AVL
set_option linter.unusedVariables false
set_option linter.unusedSimpArgs false
attribute [-simp] AV.isAgg aappI aapp alen

/-- Those that are not there. -/
def missL (bs : List Nat) (l : List (List Nat)) : List (List Nat) := l.filter fun a => !hasA bs a
theorem miss_take {bs : List Nat} {l : List (List Nat)} {i : Nat} (h : i < l.length) : missL bs (l.take (i + 1)) = if hasA bs l[i] then missL bs (l.take i) else missL bs (l.take i) ++ [l[i]] := by
  rw [List.take_succ_eq_append_getElem h, missL, List.filter_append]
  cases hh : hasA bs l[i] <;> simp [missL, hh]
theorem adrs_append (l m : List (List Nat)) : adrs (l ++ m) = adrs l ++ adrs m := by simp [adrs]
theorem adrs_noF (l : List (List Nat)) : AV.noFs (adrs l) = true := by
  induction l with
  | nil => rfl
  | cons a l ih => simpa [adrs, AV.noFs, AV.noF, adrV] using ih
theorem w_filter_Missing (bs : List Nat) (n : Int) (l : List (List Nat)) (hb : Bytes bs) (hl : ∀ a ∈ l, Adr a) (hll : l.length < 2 ^ 32) (hl0 : 0 < bs.length) (hl1 : bs.length < 2 ^ 15) : MakesR Try.prog F_Pfilter_Filter_Missing [.pval (filV bs n), .dsl 32 (adrs l)] T_32_uint8 32 (adrs (missL bs l)) := by
  refine i_Pfilter_Filter_Missing (by simp) fun R hR => ?_
  simp -implicitDefEqProofs [a_Pfilter_Filter_Missing, q_Pfilter_Filter_Missing_0, q_Pfilter_Filter_Missing_1, q_Pfilter_Filter_Missing_2]
  refine X_lp (fun (i : Nat) env B => i ≤ l.length ∧ env 0 = .pval (filV bs n) ∧ env 8 = .dsl 32 (adrs l) ∧ env 9 = .int .i64 l.length ∧ env 10 = .int .i64 i ∧ SlR T_32_uint8 32 (env 5) (adrs (missL bs (l.take i))) H0 B) (fun i => l.length - i) 0
    ⟨by omega, by simp, by simp, by simp, by simp, by simpa [missL, adrs] using SlR.nil (Sub_refl _)⟩ ?_
  rintro i env B ⟨hi, e0, e8, e9, e10, h5⟩
  obtain ⟨v5, hv5⟩ : ∃ v, env 5 = v := ⟨_, rfl⟩
  rw [hv5] at h5
  simp -implicitDefEqProofs (disch := first | omega | simp) [q_Pfilter_Filter_Missing_L8, q_Pfilter_Filter_Missing_3, q_Pfilter_Filter_Missing_8, e0, e8, e9, e10, hv5]
  refine ⟨fun hil => ?_, fun hil => ?_⟩
  · obtain ⟨ha, hal⟩ := hl _ (List.getElem_mem hil)
    have ht := miss_take (bs := bs) hil
    have hml : (missL bs (l.take i)).length ≤ l.length := Nat.le_trans (List.length_filter_le _ _) (List.length_take_le' _ _)
    simp -implicitDefEqProofs (disch := first | omega | simp) [q_Pfilter_Filter_Missing_4, q_Pfilter_Filter_Missing_5, e0, e8, e9, e10, hil, adrV]
    intro g hg
    refine (w_filter_Has bs n _ hb ha hal hl0 hl1).call (.cons (.refl _) rfl (.cons (.refl _) rfl .nil)) rfl ?_
    cases hh : hasA bs l[i] with
    | true =>
      simp -implicitDefEqProofs (disch := first | omega | simp) [q_Pfilter_Filter_Missing_7, e10, wrap_i64]
      refine lp_next (i + 1) ⟨by omega, by simp [e0], by simp [e8], by simp [e9], by simp, ?_⟩ (by omega)
      rw [ht, if_pos hh]
      simpa [hv5] using h5.mono (sub_none hg)
    | false =>
      simp -implicitDefEqProofs (disch := first | omega | simp) [q_Pfilter_Filter_Missing_6, q_Pfilter_Filter_Missing_7, e10, hv5, wrap_i64]
      intro g1 h1 h2 hg1
      refine (h5.mono (sub_none (c := .var 39 [adrV l[i]]) hg)).app (ys := [adrV l[i]]) (by simp [adrV]) rfl (sub_none (by simp [h1, h2, hg1])) (by simp [h1, h2, hg1]) (by simp; omega) fun v' C' h' hag => ?_
      simp -implicitDefEqProofs (disch := first | omega | simp) [e10, wrap_i64]
      refine lp_next (i + 1) ⟨by omega, by simp [e0], by simp [e8], by simp [e9], by simp, ?_⟩ (by omega)
      rw [ht, if_neg (by simp [hh]), adrs_append]
      simpa [adrs] using h'
  · have : i = l.length := by omega
    subst this
    rw [List.take_length] at h5
    refine hR _ _ _ ?_
    simpa -implicitDefEqProofs [fpost, a_Pfilter_Filter_Missing] using h5.fin
def szN (n : Nat) : Nat := 1 + n % 32
theorem w_law32_size (n : Nat) (h : n < 256) : Gives Try.prog F_law32_size [.int .u8 n] (.int .i64 (8 * szN n : Int)) := by
  have h1 : IntKind.i64.wrap (n : Int) = n := wrap_i64 (by omega)
  have h2 : (n : Int).tmod 32 = ((n % 32 : Nat) : Int) := rfl
  have h3 : IntKind.i64.wrap ((n : Int) % 32) = (n : Int) % 32 := wrap_i64 (by omega)
  have h4 : IntKind.i64.wrap (1 + (n : Int) % 32) = 1 + (n : Int) % 32 := wrap_i64 (by omega)
  have h5 : IntKind.i64.wrap (8 * (1 + (n : Int) % 32)) = 8 * (1 + (n : Int) % 32) := wrap_i64 (by omega)
  refine v_law32_size (by simp) ?_
  simp -implicitDefEqProofs (disch := first | omega | simp) [a_law32_size, q_law32_size_0, q_law32_size_1, h1, h2, h3, h4, h5]
  simp [szN]
theorem join_setR (A B : Heap) {g : Nat} {c : Cont} (h : A g = none) : A.join (B.set g c) = (A.join B).set g c := by
  funext x
  simp only [Heap.join, Heap.set]
  by_cases e : x = g
  · subst e; simp [h]
  · simp only [if_neg e]
/-- What holds a filter. -/
def FilH (h f : Nat) (bs : List Nat) (n : Int) (A : Heap) : Heap := (A.set h (.irow T_uint8 .u8 (ints bs))).set f (.var T_filter_Filter [.own h 0 bs.length, .int .i64 n])
theorem FilH_f {h f : Nat} {bs : List Nat} {n : Int} {A : Heap} : FilH h f bs n A f = some (.var T_filter_Filter [.own h 0 bs.length, .int .i64 n]) := set_eq'
theorem FilH_h {h f : Nat} {bs : List Nat} {n : Int} {A : Heap} (hne : f ≠ h) : FilH h f bs n A h = some (.irow T_uint8 .u8 (ints bs)) := by
  unfold FilH; rw [set_ne' (Ne.symm hne)]; exact set_eq'
theorem FilH_sub {h f : Nat} {bs : List Nat} {n : Int} {A : Heap} (hh : A h = none) (hf : A f = none) (hne : f ≠ h) : A.Sub (FilH h f bs n A) :=
  sub_tr (sub_none hh) (sub_none (by rw [set_ne' hne]; exact hf))
theorem c_Of {A : Heap} {args : List AV} {K Kp : AV → Heap → Prop} {nb : Nat} (h1 : 0 < nb) (h2 : nb ≤ 2048) {l : List (List Nat)} (hl : ∀ a ∈ l, Adr a) (hll : l.length < 2 ^ 32) (hv : VwL A args [.int .i64 (8 * nb : Int), .dsl 32 (adrs l)])
    (hK : ∀ h f, A h = none → A f = none → f ≠ h → K (.tuple [.ptr f 0, .int .i64 0]) (FilH h f (putL (zer nb) l) l.length A)) : SimX Try.prog F_filter_Of args A (outK K Kp) :=
  SimX.view (w_filter_Of h1 h2 hl hll) hv (fun o B ⟨h, f, hf, h1, h2⟩ => by
      subst h1; subst h2
      refine ⟨rfl, fun g' c' hc => ?_⟩
      rw [set_app] at hc
      split at hc
      · injection hc with hc; subst hc; rfl
      · rw [set_app] at hc
        split at hc
        · injection hc with hc; subst hc; rfl
        · cases hc)
    (fun o B ⟨h, f, hf, h1, h2⟩ hd => by
      subst h1; subst h2
      have a1 := hd f _ set_eq'
      have a2 := hd h (.irow T_uint8 .u8 (ints (putL (zer nb) l))) (by simp [Ne.symm hf])
      rw [join_setR _ _ a1, join_set _ a2]
      have := hK h f a2 a1 hf
      unfold FilH at this
      rw [putL_length, zer_length] at this
      exact this)
theorem c_New {A : Heap} {K Kp : AV → Heap → Prop} {nb : Nat} (h1 : 0 < nb) (h2 : nb ≤ 2048) (hK : ∀ h f, A h = none → A f = none → f ≠ h → K (.tuple [.ptr f 0, .int .i64 0]) (FilH h f (zer nb) 0 A)) : SimX Try.prog F_filter_New [.int .i64 (8 * nb : Int)] A (outK K Kp) :=
  w_filter_New h1 h2 fun h f a b c => by simpa [FilH] using hK h f a b c
/-- A filter, seen. -/
theorem fil_vw {A : Heap} {h f : Nat} {bs : List Nat} {n : Int} {t : TypeId} (hf : A f = some (.var t [.own h 0 bs.length, .int .i64 n])) (hh : A h = some (.irow T_uint8 .u8 (ints bs))) : Vw A (.ptr f 0) (.pval (filV bs n)) :=
  .ptr hf (.cons (vw_own hh (by simp)) (.cons (.refl _) .nil))
def ad (k : Nat) : List Nat := k :: List.replicate 31 0
theorem ad_Adr {k : Nat} (h : k < 256) : Adr (ad k) := ⟨fun x hx => by
  rcases List.mem_cons.1 hx with rfl | hx
  · exact h
  · rw [List.eq_of_mem_replicate hx]; decide, by simp [ad]⟩
theorem build_ad (env : AEnv) (A : Heap) (K : AV → Heap → Prop) (k : Nat) : abuild (.ia .u8 32) [.iarr .u8 32 (List.replicate 32 0)] [(0, (1, (.v (.int .u8 (k : Int)))))] env A K = K (adrV (ad k)) A := by
  kernel_rfl
theorem build_ad1 (env : AEnv) (A : Heap) (K : AV → Heap → Prop) : abuild (.ia .u8 32) [.iarr .u8 32 (List.replicate 32 0)] [(0, (1, (.v (.int .u8 1))))] env A K = K (adrV (ad 1)) A := build_ad env A K 1
theorem build_ad2 (env : AEnv) (A : Heap) (K : AV → Heap → Prop) : abuild (.ia .u8 32) [.iarr .u8 32 (List.replicate 32 0)] [(0, (1, (.v (.int .u8 2))))] env A K = K (adrV (ad 2)) A := build_ad env A K 2
theorem build_ad3 (env : AEnv) (A : Heap) (K : AV → Heap → Prop) : abuild (.ia .u8 32) [.iarr .u8 32 (List.replicate 32 0)] [(0, (1, (.v (.int .u8 3))))] env A K = K (adrV (ad 3)) A := build_ad env A K 3
theorem works_num : ∃ bs, putL (zer 8) [ad 1, ad 2] = bs ∧ Bytes bs ∧ bs.length = 8 ∧ ∃ cs, orB bs (zer 8) 8 = cs ∧ cs.length = 8 ∧ hasA cs (ad 1) = true ∧ hasA cs (ad 2) = true ∧ hasA cs (ad 3) = false ∧ ones cs = 3 ∧ missL (zer 8) [ad 1] = [ad 1] :=
  ⟨_, rfl, putL_bytes _ (zer_bytes 8), by simp, _, rfl, by simp, by decide +kernel, by decide +kernel, by decide +kernel, by decide +kernel, by decide +kernel⟩
attribute [-simp] abuild
theorem w_law32_works : Gives Try.prog F_law32_works [] (.bool true) := by
  obtain ⟨bs, e1, hb, hbl, cs, e2, hcl, h1, h2, h3, h4, h5⟩ := works_num
  have hcb : Bytes cs := e2 ▸ orB_bytes hb (zer_bytes 8) 8
  have a1 := ad_Adr (k := 1) (by decide)
  have a2 := ad_Adr (k := 2) (by decide)
  have a3 := ad_Adr (k := 3) (by decide)
  refine v_law32_works (by simp) ?_
  simp -implicitDefEqProofs [a_law32_works, q_law32_works_0, q_law32_works_1, build_ad1, build_ad2, adrV, -List.reduceReplicate]
  intro g
  have hv : Vw (H0.set g (.row 39 32 [.iarr .u8 32 (ints (ad 1)), .iarr .u8 32 (ints (ad 2))])) (.own g 0 2) (.dsl 32 (adrs [ad 1, ad 2])) := .ownR (i := 0) (n := 2) set_eq' (by simp) (Vws.refls _)
  refine c_Of (nb := 8) (l := [ad 1, ad 2]) (by decide) (by decide) (by simp [a1, a2]) (by simp) (.cons (.refl _) rfl (.cons hv rfl .nil)) fun h f hh hf hne => ?_
  rw [e1]
  simp -implicitDefEqProofs [q_law32_works_2]
  refine (w_filter_New_bad (n := 9) (by decide) (by decide)).call (.cons (.refl _) rfl .nil) rfl ?_
  simp -implicitDefEqProofs [q_law32_works_3]
  refine c_New (nb := 8) (by decide) (by decide) fun ho fo hho hfo hneo => ?_
  simp -implicitDefEqProofs [q_law32_works_4]
  refine c_New (nb := 1) (by decide) (by decide) fun hi fi hhi hfi hnei => ?_
  simp -implicitDefEqProofs [q_law32_works_5, q_law32_works_7]
  have n1 := fresh_ne FilH_f hho
  have n2 := fresh_ne FilH_f hfo
  have n3 := fresh_ne (FilH_h hne) hho
  have n4 := fresh_ne (FilH_h hne) hfo
  have n5 := fresh_ne FilH_f hhi
  have n6 := fresh_ne FilH_f hfi
  have n7 := fresh_ne (FilH_h hneo) hhi
  have n8 := fresh_ne (FilH_h hneo) hfi
  have s2 := FilH_sub (bs := zer 8) (n := 0) hho hfo hneo
  have s3 := FilH_sub (bs := zer 1) (n := 0) hhi hfi hnei
  have m1 := fresh_ne (s2 _ _ FilH_f) hhi
  have m2 := fresh_ne (s2 _ _ FilH_f) hfi
  have m3 := fresh_ne (s2 _ _ (FilH_h hne)) hhi
  have m4 := fresh_ne (s2 _ _ (FilH_h hne)) hfi
  have f1 := s3 _ _ (s2 _ _ FilH_f)
  have f2 := s3 _ _ (s2 _ _ (FilH_h hne))
  have f3 := s3 _ _ FilH_f
  have f4 := s3 _ _ (FilH_h hneo)
  have f5 := FilH_f (h := hi) (f := fi) (bs := zer 1) (n := 0) (A := FilH ho fo (zer 8) 0 (FilH h f bs 2 (H0.set g (.row 39 32 [.iarr .u8 32 (ints (ad 1)), .iarr .u8 32 (ints (ad 2))]))))
  generalize FilH hi fi (zer 1) 0 (FilH ho fo (zer 8) 0 (FilH h f bs 2 (H0.set g (.row 39 32 [.iarr .u8 32 (ints (ad 1)), .iarr .u8 32 (ints (ad 2))])))) = A at *
  refine w_filter_Join hb (zer_bytes 8) (by omega) f1 f3 f2 f4 n3 n2 (by rw [hbl]; rfl) (by decide) (by decide) ?_
  rw [hbl, e2]
  simp -implicitDefEqProofs [q_law32_works_8]
  have p1 : ((A.set h (.irow T_uint8 .u8 (ints cs))).set f (.var T_filter_Filter [.own h 0 8, .int .i64 2])) f = some (.var T_filter_Filter [.own h 0 cs.length, .int .i64 2]) := by rw [hcl]; exact set_eq'
  have p2 : ((A.set h (.irow T_uint8 .u8 (ints cs))).set f (.var T_filter_Filter [.own h 0 8, .int .i64 2])) h = some (.irow T_uint8 .u8 (ints cs)) := by rw [set_ne' (Ne.symm hne)]; exact set_eq'
  have p3 : ((A.set h (.irow T_uint8 .u8 (ints cs))).set f (.var T_filter_Filter [.own h 0 8, .int .i64 2])) fo = some (.var T_filter_Filter [.own ho 0 (zer 8).length, .int .i64 0]) := by rw [set_ne' (Ne.symm n2), set_ne' (Ne.symm n4)]; exact f3
  have p4 : ((A.set h (.irow T_uint8 .u8 (ints cs))).set f (.var T_filter_Filter [.own h 0 8, .int .i64 2])) ho = some (.irow T_uint8 .u8 (ints (zer 8))) := by rw [set_ne' (Ne.symm n1), set_ne' (Ne.symm n3)]; exact f4
  have p5 : ((A.set h (.irow T_uint8 .u8 (ints cs))).set f (.var T_filter_Filter [.own h 0 8, .int .i64 2])) fi = some (.var T_filter_Filter [.own hi 0 (zer 1).length, .int .i64 0]) := by rw [set_ne' (Ne.symm m2), set_ne' (Ne.symm m4)]; exact f5
  generalize (A.set h (.irow T_uint8 .u8 (ints cs))).set f (.var T_filter_Filter [.own h 0 8, .int .i64 2]) = B at *
  refine w_filter_Join_bad (by omega) (by decide) p1 p5 (by rw [hcl]; decide) ?_
  simp -implicitDefEqProofs [q_law32_works_9, build_ad1, adrV, -List.reduceReplicate]
  intro gm hgm
  have hv2 : Vw (B.set gm (.row 39 32 [.iarr .u8 32 (ints (ad 1))])) (.own gm 0 1) (.dsl 32 (adrs [ad 1])) := .ownR (i := 0) (n := 1) set_eq' (by simp) (Vws.refls _)
  have q1 := sub_none (c := .row 39 32 [.iarr .u8 32 (ints (ad 1))]) hgm
  have hm := w_filter_Missing (zer 8) 0 [ad 1] (zer_bytes 8) (by simp [a1]) (by simp) (by simp) (by simp)
  rw [h5] at hm
  refine hm.call (.cons (fil_vw (q1 _ _ p3) (q1 _ _ p4)) rfl (.cons hv2 rfl .nil)) (adrs_noF _) fun vm C hC => ?_
  obtain ⟨gm', rfl, _, hgm'⟩ := hC.own.resolve_left (by simp [adrs])
  have r1 := hC.sub _ _ (q1 _ _ p1)
  have r2 := hC.sub _ _ (q1 _ _ p2)
  have w1 := fil_vw r1 r2
  have k1 := w_filter_Has cs 2 (ad 1) hcb a1.1 a1.2 (by omega) (by omega)
  have k2 := w_filter_Has cs 2 (ad 2) hcb a2.1 a2.2 (by omega) (by omega)
  have k3 := w_filter_Has cs 2 (ad 3) hcb a3.1 a3.2 (by omega) (by omega)
  rw [h1] at k1
  rw [h2] at k2
  rw [h3] at k3
  have k5 := w_filter_Size cs 2 (by omega)
  have k6 := w_filter_Ones cs 2 hcb (by omega)
  rw [hcl] at k5
  rw [h4] at k6
  have k7 := w_filter_Bytes cs 2 (by omega)
  simp -implicitDefEqProofs [q_law32_works_10, build_ad1, build_ad2, build_ad3, adrV, -List.reduceReplicate]
  refine k1.call (.cons w1 rfl (.cons (.refl _) rfl .nil)) rfl ?_
  simp -implicitDefEqProofs [build_ad1, build_ad2, build_ad3, adrV, -List.reduceReplicate]
  refine k2.call (.cons w1 rfl (.cons (.refl _) rfl .nil)) rfl ?_
  simp -implicitDefEqProofs [build_ad1, build_ad2, build_ad3, adrV, -List.reduceReplicate]
  refine k3.call (.cons w1 rfl (.cons (.refl _) rfl .nil)) rfl ?_
  simp -implicitDefEqProofs [adrs]
  refine (w_filter_Len cs 2).call (.cons w1 rfl .nil) rfl ?_
  simp -implicitDefEqProofs
  refine k5.call (.cons w1 rfl .nil) rfl ?_
  simp -implicitDefEqProofs
  refine k6.call (.cons w1 rfl .nil) rfl ?_
  simp -implicitDefEqProofs
  refine k7.call (.cons w1 rfl .nil) rfl fun gb hgb => ?_
  simp -implicitDefEqProofs [hcl]
end Go.Proofs.Ytjbiekcldkjgjaa
