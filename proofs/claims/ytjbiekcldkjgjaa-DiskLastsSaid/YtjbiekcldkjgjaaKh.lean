/- The walks of the law's same, works. -/
import Derived.Test.YtjbiekcldkjgjaaKg
namespace Go.Proofs.Ytjbiekcldkjgjaa
open Go AVL
attribute [-simp] AV.isAgg aappI aapp alen shp good comps
set_option linter.unusedVariables false
set_option linter.unusedSimpArgs false
set_option maxRecDepth 8000

section
variable {A B : Heap} {g : Nat} {rv : AV} {D : Dsk} {K Kp : AV → Heap → Prop}
theorem w_law06_same (h : DskAt A g D B) (hr : RefIn A rv D) (hwl : D.wait.length < 2 ^ 32) (hk : ∀ B', B.Sub B' → K (.bool true) B') : SimX Try.prog F_law06_same [.ptr g 0, rv] B (outK K Kp) := by
  have hA := h.sub
  have hwf := h.wf
  have hr0 := hr
  obtain ⟨gl, wv, rfl, hgl, hwv⟩ := hr
  have hw := hwv.scl
  refine j_law06_same (by simp) ?_
  simp -implicitDefEqProofs [a_law06_same, q_law06_same_0, hw.size, hw.shp, hw.agg, hw.good, hw.comps, hw.st]
  intro g3 h3
  obtain ⟨c3, hc3⟩ : ∃ c, Cont.var 67 [.own gl 0 D.last.length, wv, .int .i64 D.steps, .int .i64 D.fuse, .bool D.down] = c := ⟨_, rfl⟩
  rw [hc3]
  have hd1 := h.rebase (c := c3) h3
  have hA3 := sub_noneL hA h3
  have hAA : A.Sub (A.set g3 c3) := sub_none hA3
  have a3 : (A.set g3 c3) g3 = some c3 := by simp
  have hBB : B.Sub (B.set g3 c3) := sub_none h3
  obtain ⟨A1, hA1⟩ : ∃ X, A.set g3 c3 = X := ⟨_, rfl⟩
  obtain ⟨B1, hB1⟩ : ∃ X, B.set g3 c3 = X := ⟨_, rfl⟩
  rw [hA1] at hd1 hAA a3
  rw [hB1] at hd1 hBB
  rw [hB1]
  have hs1 := hd1.sub
  have hr1 := hr0.mono hAA
  have b3 := hs1 _ _ a3
  subst hc3
  clear hA1 hB1
  simp -implicitDefEqProofs [q_law06_same_1]
  refine w_disk_Pending hd1 hwl fun vp C hC => ?_
  have hp := hC.scl
  have hpl : ∀ F : AV → Prop, alen false vp F = F (.int .i64 D.wait.length) := fun F => by rw [hC.len, ints_length, List.length_map]
  have c3 := hC.sub _ _ b3
  have hdC := hd1.mono hC.sub
  have hrow := hC.sub _ _ (hs1 _ _ (hAA _ _ hgl))
  have hwC := hwv.mono (sub_tr hAA (sub_tr hs1 hC.sub))
  have hwl' : ∀ F : AV → Prop, alen false wv F = F (.int .i64 D.wait.length) := fun F => by rw [hwC.len, wrs_length]
  simp -implicitDefEqProofs [q_law06_same_2, hp.agg, hpl, c3, hw.size, hw.shp, hw.agg, hw.good, hw.comps, hw.st, hwl', Sub_refl]
  refine w_disk_Waits hdC ?_
  simp -implicitDefEqProofs [c3, hw.size, hw.shp, hw.agg, hw.good, hw.comps, hw.st, Sub_refl]
  refine w_disk_Size hdC ?_
  simp -implicitDefEqProofs [c3, hw.size, hw.shp, hw.agg, hw.good, hw.comps, hw.st, Sub_refl]
  refine w_disk_Steps hdC ?_
  simp -implicitDefEqProofs [c3, hw.size, hw.shp, hw.agg, hw.good, hw.comps, hw.st, Sub_refl]
  refine w_disk_Down hdC ?_
  simp -implicitDefEqProofs [c3, hw.size, hw.shp, hw.agg, hw.good, hw.comps, hw.st, Sub_refl]
  refine w_disk_Image hdC fun gi X hX => ?_
  simp -implicitDefEqProofs [hX.sub]
  obtain ⟨_, hgi, _, _⟩ := hX.at
  have hglX := hX.sub _ _ hrow
  refine (w_ref06_SameImage hwf.last hwf.last hwf.size).call (.cons (vw_row hgi (by simp)) rfl (.cons (vw_row hglX (by simp)) rfl .nil)) rfl ?_
  have hCX := hX.sub
  simp -implicitDefEqProofs [q_law06_same_4]
  refine X_lp (fun (i : Nat) env Y => i ≤ D.wait.length ∧ env 3 = .ptr g3 0 ∧ env 5 = vp ∧ env 6 = .int .i64 i ∧ C.Sub Y) (fun i => D.wait.length - i) 0
    ⟨by omega, by simp, by simp, by simp, hCX⟩ ?_
  rintro i env Y ⟨hi, e3, e5, e6, hY⟩
  have d3 := hY _ _ c3
  by_cases hil : i < D.wait.length
  · have hil' : (i : Int) < D.wait.length := by omega
    have wi : IntKind.i64.wrap ((i : Int) + 1) = (i : Int) + 1 := wrap_i64 (by omega)
    obtain ⟨gp, hpe, _, fp⟩ := hC.pos (by simpa using Nat.lt_of_le_of_lt (Nat.zero_le _) hil)
    obtain ⟨gw, hwe, _, fw⟩ := hwC.pos (by simpa using Nat.lt_of_le_of_lt (Nat.zero_le _) hil)
    rw [ints_length, List.length_map] at hpe
    rw [wrs_length] at hwe
    have fp' := hY _ _ fp
    have fw' := hY _ _ fw
    subst hpe hwe
    simp -implicitDefEqProofs [q_law06_same_L9, q_law06_same_5, q_law06_same_6, q_law06_same_8, e3, e5, e6, hil, hil', d3, fp', fw', wrs_getE, wrV, secV, wi]
    exact lp_next (i + 1) ⟨by omega, by simp [e3], by simp [e5], by simp, hY⟩ (by omega)
  · have hie : i = D.wait.length := by omega
    subst hie
    simp -implicitDefEqProofs [q_law06_same_L9, q_law06_same_5, q_law06_same_9, e3, e5, e6, hp.agg, hpl, outOf]
    exact hk _ (sub_tr hBB (sub_tr hC.sub hY))
end
def wk0 : Dsk := Dsk.fresh 3
def wk1 : Dsk := wk0.write 1 (filled 5)
def wk2 : Dsk := wk1.crash [false]
def wk3 : Dsk := wk2.setFuse 0
def wk4 : Dsk := wk1.crash [true]
theorem w_law06_works : Gives Try.prog F_law06_works [] (.bool true) := by
  refine v_law06_works (by simp) ?_
  simp -implicitDefEqProofs [a_law06_works, q_law06_works_0, q_law06_works_1]
  refine w_disk_New (fun h => absurd (by decide) h) fun _ d B0 h0 => ?_
  simp -implicitDefEqProofs [q_law06_works_2]
  refine w_disk_New (fun _ => ?_) fun h => absurd h (by decide)
  simp -implicitDefEqProofs [q_law06_works_3, q_law06_works_5, pop, nilOf]
  refine (w_law06_Filled (b := 5) (by decide)).call (.cons (.refl _) rfl .nil) rfl ?_
  simp -implicitDefEqProofs [secV]
  refine w_disk_Write (s := filled 5) h0 (by decide) (by decide) (filled_sec (by decide)) fun B1 h1 => ?_
  have e1 : (if (Dsk.fresh (Int.toNat 3)).inside 1 = true then (Dsk.fresh (Int.toNat 3)).write (Int.toNat 1) (filled 5) else Dsk.fresh (Int.toNat 3)) = wk1 := rfl
  have e1' : (if (Dsk.fresh (Int.toNat 3)).inside 1 = true then codeOf (Dsk.fresh (Int.toNat 3)).ok else 2) = 0 := rfl
  rw [e1] at h1
  rw [e1']
  clear h0 e1 e1'
  simp -implicitDefEqProofs [q_law06_works_6]
  refine w_disk_Read h1 fun B2 s2 => ?_
  have e2 : wk1.rd 1 = (filled 5, 0) := rfl
  rw [e2]
  simp -implicitDefEqProofs [secV, -List.reduceReplicate]
  intro g6 h6
  have h2 := (h1.mono s2).rebase (c := .var 78 [.iarr .u8 256 (ints (filled 5))]) h6
  have a6 : (H0.set g6 (.var 78 [.iarr .u8 256 (ints (filled 5))])) g6 = some (.var 78 [.iarr .u8 256 (ints (filled 5))]) := by simp
  obtain ⟨A0, hA0⟩ : ∃ X, H0.set g6 (.var 78 [.iarr .u8 256 (ints (filled 5))]) = X := ⟨_, rfl⟩
  obtain ⟨B3, hB3⟩ : ∃ X, B2.set g6 (.var 78 [.iarr .u8 256 (ints (filled 5))]) = X := ⟨_, rfl⟩
  rw [hA0] at h2 a6
  rw [hB3] at h2 ⊢
  clear hA0 hB3 h1 s2 h6 e2
  simp -implicitDefEqProofs [q_law06_works_7, -List.reduceReplicate]
  refine w_disk_Twin h2 (by decide) fun t B4 ht => ?_
  have h3 := h2.plus ht.sub
  have ht3 := ht.split h2.sub
  have a6' := (sub_plus h2.sub (B' := B4)) _ _ a6
  obtain ⟨T, hT⟩ : ∃ X, A0.plus B3 B4 = X := ⟨_, rfl⟩
  rw [hT] at h3 ht3 a6'
  clear ht h2 hT
  simp -implicitDefEqProofs [q_law06_works_8, -List.reduceReplicate]
  refine (w_law06_Filled (b := 1) (by decide)).call (.cons (.refl _) rfl .nil) rfl ?_
  simp -implicitDefEqProofs [secV, -List.reduceReplicate]
  refine w_disk_Write (s := filled 1) h3 (by decide) (by decide) (filled_sec (by decide)) fun B5 h5 => ?_
  have e3 : (if wk1.inside 3 = true then wk1.write (Int.toNat 3) (filled 1) else wk1) = wk1 := rfl
  have e3' : (if wk1.inside 3 = true then codeOf wk1.ok else 2) = 2 := rfl
  rw [e3] at h5
  rw [e3']
  clear h3 e3 e3'
  simp -implicitDefEqProofs [q_law06_works_9, -List.reduceReplicate]
  intro g40 h40
  have h6 := h5.rebase (c := .row 4 1 [.bool false]) h40
  have hT40 := sub_noneL h5.sub h40
  have ht6 := ht3.mono (sub_none (c := .row 4 1 [.bool false]) hT40)
  refine w_disk_Crash (keep := [false]) h6 (by decide) (.inr ⟨g40, rfl, set_eq'⟩) fun B7 h7 => ?_
  have e4 : stn (keeps [false]) wk1.wait.length = 0 := rfl
  rw [show wk1.crash [false] = wk2 from rfl] at h7
  rw [e4]
  have a6'' : (T.set g40 (.row 4 1 [.bool false])) g6 = some (.var 78 [.iarr .u8 256 (ints (filled 5))]) := by rw [Heap.set_ne _ _ (fresh_ne a6' hT40)]; exact a6'
  obtain ⟨T1, hT1⟩ : ∃ X, T.set g40 (.row 4 1 [.bool false]) = X := ⟨_, rfl⟩
  rw [hT1] at h7 ht6 a6''
  clear h6 h5 ht3 hT1 e4
  simp -implicitDefEqProofs [q_law06_works_10, -List.reduceReplicate]
  refine w_disk_Read h7 fun B8 s8 => ?_
  have e5 : wk2.rd 1 = (z256, 0) := rfl
  rw [e5]
  simp -implicitDefEqProofs [secV, -List.reduceReplicate]
  intro g11 h11
  have h9 := (h7.mono s8).rebase (c := .var 78 [.iarr .u8 256 (ints z256)]) h11
  have hT11 := sub_noneL h7.sub (sub_noneL s8 h11)
  have ht9 := ht6.rebase (c := .var 78 [.iarr .u8 256 (ints z256)]) hT11
  have hA11 := sub_noneL ht6.sub hT11
  have b6 : (A0.set g11 (.var 78 [.iarr .u8 256 (ints z256)])) g6 = some (.var 78 [.iarr .u8 256 (ints (filled 5))]) := by rw [Heap.set_ne _ _ (fresh_ne a6 hA11)]; exact a6
  have b11 : (A0.set g11 (.var 78 [.iarr .u8 256 (ints z256)])) g11 = some (.var 78 [.iarr .u8 256 (ints z256)]) := set_eq'
  obtain ⟨T2, hT2⟩ : ∃ X, T1.set g11 (.var 78 [.iarr .u8 256 (ints z256)]) = X := ⟨_, rfl⟩
  obtain ⟨A2, hA2⟩ : ∃ X, A0.set g11 (.var 78 [.iarr .u8 256 (ints z256)]) = X := ⟨_, rfl⟩
  rw [hT2] at h9 ht9
  rw [hA2] at ht9 b6 b11
  clear h7 ht6 hT2 e5 s8
  simp -implicitDefEqProofs [q_law06_works_11, -List.reduceReplicate]
  refine w_disk_Fuse h9 (by decide) fun B10 h10 => ?_
  rw [show wk2.setFuse 0 = wk3 from rfl] at h10
  simp -implicitDefEqProofs [q_law06_works_12, -List.reduceReplicate]
  refine w_disk_Flush h10 (by decide) (by decide) fun B12 h12 => ?_
  rw [show codeOf wk3.ok = 4 from rfl]
  clear h9 h10
  simp -implicitDefEqProofs [q_law06_works_13, pop, nilOf, q_law06_works_15, -List.reduceReplicate]
  intro g54 h54
  have ht13 := (ht9.plus h12.sub).rebase (c := .row 4 1 [.bool true]) h54
  have h13 := (h12.split ht9.sub).mono (sub_none (c := .row 4 1 [.bool true]) (sub_noneL (ht9.plus h12.sub).sub h54))
  have hs54 : A2.Sub _ := sub_tr (sub_plus ht9.sub) (sub_none (c := .row 4 1 [.bool true]) (sub_noneL (ht9.plus h12.sub).sub h54))
  refine w_disk_Crash (keep := [true]) ht13 (by decide) (.inr ⟨g54, rfl, set_eq'⟩) fun B14 h14 => ?_
  have hd14 := h13.mono h14.sub
  have c6 := h14.sub _ _ (hs54 _ _ b6)
  have c11 := h14.sub _ _ (hs54 _ _ b11)
  rw [show wk1.crash [true] = wk4 from rfl] at h14
  rw [show stn (keeps [true]) wk1.wait.length = 1 from rfl]
  clear ht9 h13 ht13 h12
  simp -implicitDefEqProofs [q_law06_works_16, -List.reduceReplicate]
  refine w_disk_Image h14 fun gi B15 h15 => ?_
  have hd15 := hd14.mono h15.sub
  have k6 := h15.sub _ _ c6
  have k11 := h15.sub _ _ c11
  obtain ⟨_, ki, _, _⟩ := h15.at
  rw [show wk4.last.length = 3 from rfl]
  rw [show secs wk4.last = [secV z256, secV (filled 5), secV z256] from rfl] at ki
  clear h14 hd14 c6 c11 h15
  have q0 := secV_eq sec_z sec_z
  have q5 := secV_eq (filled_sec (b := 5) (by decide)) (filled_sec (b := 5) (by decide))
  rw [beq_self_eq_true] at q0 q5
  simp -implicitDefEqProofs [q_law06_works_17, k6, k11, -List.reduceReplicate]
  refine (w_law06_Filled (b := 5) (by decide)).call (.cons (.refl _) rfl .nil) rfl ?_
  simp -implicitDefEqProofs [secV, q5, k11, Sub_refl, -List.reduceReplicate]
  refine (w_law06_Filled (b := 0) (by decide)).call (.cons (.refl _) rfl .nil) rfl ?_
  rw [filled0]
  simp -implicitDefEqProofs [secV, q0, Sub_refl, -List.reduceReplicate]
  refine w_disk_Down hd15 ?_
  rw [show (wk3.flush).down = true from rfl]
  simp -implicitDefEqProofs [ki, secV, -List.reduceReplicate]
  refine (w_law06_Filled (b := 5) (by decide)).call (.cons (.refl _) rfl .nil) rfl ?_
  simp -implicitDefEqProofs [secV, q5, Sub_refl, -List.reduceReplicate]
  refine w_disk_Size hd15 ?_
  rw [show (wk3.flush).last.length = 3 from rfl]
  simp -implicitDefEqProofs [-List.reduceReplicate]
  refine w_disk_Steps hd15 ?_
  rw [show (wk3.flush).steps = 1 from rfl]
  simp -implicitDefEqProofs [-List.reduceReplicate]
  refine w_disk_Waits hd15 ?_
  rw [show (wk3.flush).wait.length = 0 from rfl]
  simp -implicitDefEqProofs [-List.reduceReplicate]
  refine w_disk_Pending hd15 (by decide) fun vp B16 h16 => ?_
  have hpl : ∀ F : AV → Prop, alen false vp F = F (.int .i64 0) := fun F => by rw [h16.len]; rfl
  simp -implicitDefEqProofs [h16.scl.agg, hpl, outOf, -List.reduceReplicate]
end Go.Proofs.Ytjbiekcldkjgjaa
