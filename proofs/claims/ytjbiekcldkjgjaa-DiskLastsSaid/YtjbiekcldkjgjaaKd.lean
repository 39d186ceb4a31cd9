/- The walks of a disk's Image, Pending, New, Twin. -/
import Derived.Test.YtjbiekcldkjgjaaKc
namespace Go.Proofs.Ytjbiekcldkjgjaa
open Go AVL
attribute [-simp] AV.isAgg aappI aapp alen shp good comps
set_option linter.unusedVariables false
set_option linter.unusedSimpArgs false
set_option maxRecDepth 8000

theorem secs_sts (L : List (List Nat)) : AV.sts (secs L) = true := by
  induction L with
  | nil => rfl
  | cons s L ih => simp only [secs, List.map_cons, AV.sts, secV, AV.st, Bool.true_and]; exact ih
theorem wrs_sts (w : List (Nat × List Nat)) : AV.sts (wrs w) = true := by
  induction w with
  | nil => rfl
  | cons s L ih => simp only [wrs, List.map_cons, AV.sts, wrV, secV, AV.st, Bool.true_and]; exact ih
section
variable {A B : Heap} {g gl gm : Nat} {v : AV} {D : Dsk} {K Kp : AV → Heap → Prop}
theorem w_disk_Image (h : DskAt A g D B) (hk : ∀ g' B', SlR T_256_uint8 256 (.own g' 0 D.last.length) (secs D.last) B B' → K (.own g' 0 D.last.length) B') : SimX Try.prog F_Pdisk_Disk_Image [.ptr g 0] B (outK K Kp) := by
  obtain ⟨gl, v, gm, h⟩ := h
  refine j_Pdisk_Disk_Image (by simp) ?_
  have h1 := h.at'
  unfold dskC at h1
  have hsc := h.wait.scl
  simp -implicitDefEqProofs [a_Pdisk_Disk_Image, q_Pdisk_Disk_Image_0, q_Pdisk_Disk_Image_1]
  intro g3 h3
  have n1 := fresh_ne h1 h3
  have n2 := fresh_ne h.row h3
  have hsz := h.wf.size
  simp -implicitDefEqProofs [h1, n1, hsc.size, hsc.shp, hsc.agg, hsc.good, hsc.comps]
  refine (SlR.one h3 rfl).appS (C := B.set g3 (.row 78 256 [])) (Sub_refl _) (src_row (by rw [Heap.set_ne _ _ n2]; exact h.row) (by simp)) (secs_sts _) (by simp; omega) fun g' n C hn hC => ?_
  rw [List.nil_append, secs_length] at hn
  subst hn
  simp -implicitDefEqProofs [outOf]
  exact hk _ _ (by simpa using hC)
theorem w_disk_Pending (h : DskAt A g D B) (hwl : D.wait.length < 2 ^ 32) (hk : ∀ v' B', SlS T_int .i64 v' (ints (D.wait.map fun p => p.1)) B B' → K v' B') : SimX Try.prog F_Pdisk_Disk_Pending [.ptr g 0] B (outK K Kp) := by
  obtain ⟨gl, v, gm, h⟩ := h
  refine j_Pdisk_Disk_Pending (by simp) ?_
  have h1 := h.at'
  unfold dskC at h1
  have hsc := h.wait.scl
  simp -implicitDefEqProofs [a_Pdisk_Disk_Pending, q_Pdisk_Disk_Pending_0, q_Pdisk_Disk_Pending_1, q_Pdisk_Disk_Pending_2, h1, hsc.size, hsc.shp, hsc.agg, hsc.good, hsc.comps, h.wait.len]
  refine X_lp (fun (i : Nat) env C => i ≤ D.wait.length ∧ env 9 = v ∧ env 10 = .int .i64 D.wait.length ∧ env 11 = .int .i64 i ∧ SlS T_int .i64 (env 3) (ints ((D.wait.take i).map fun p => p.1)) B C) (fun i => D.wait.length - i) 0
    ⟨by omega, by simp, by simp, by simp, by simpa using SlS.nil (Sub_refl B)⟩ ?_
  rintro i env C ⟨hi, e9, e10, e11, hu⟩
  obtain ⟨u, e3⟩ : ∃ u, env 3 = u := ⟨_, rfl⟩
  rw [e3] at hu
  by_cases hil : i < D.wait.length
  · have hil' : (i : Int) < D.wait.length := by omega
    have wi : IntKind.i64.wrap ((i : Int) + 1) = (i : Int) + 1 := wrap_i64 (by omega)
    obtain ⟨gw, hv, hgA, hgw⟩ := h.wait.pos (by simpa using Nat.lt_of_le_of_lt (Nat.zero_le _) hil)
    have hgw' := hu.sub _ _ hgw
    rw [wrs_length] at hv
    subst hv
    simp -implicitDefEqProofs [q_Pdisk_Disk_Pending_L7, q_Pdisk_Disk_Pending_3, q_Pdisk_Disk_Pending_4, e9, e10, e11, hil, hil', hgw', wrs_getE, wrV, secV, -List.reduceReplicate]
    intro g5 h5
    simp -implicitDefEqProofs [q_Pdisk_Disk_Pending_5, e3, -List.reduceReplicate]
    intro g18 h18a h18b h18
    have hf := List.take_succ_eq_append_getElem hil
    refine hu.app (bytes := 8) (ys := [((D.wait[i].1 : Nat) : Int)]) (by simp) (sub_new (sub_none h5) (by simp [h18a, h18b, h18])) h18 (by simp; omega) fun v' C' hC' hv' => ?_
    simp -implicitDefEqProofs [q_Pdisk_Disk_Pending_6, e11, wi, -List.reduceReplicate]
    refine lp_next (i + 1) ⟨by omega, by simp [e9], by simp [e10], by simp, ?_⟩ (by omega)
    have hC2 : SlS T_int .i64 v' (ints ((D.wait.take (i + 1)).map fun p => p.1)) B C' := by rw [hf, List.map_append]; simpa [ints] using hC'
    simpa using hC2
  · have hie : i = D.wait.length := by omega
    subst hie
    rw [List.take_length] at hu
    simp -implicitDefEqProofs [q_Pdisk_Disk_Pending_L7, q_Pdisk_Disk_Pending_3, q_Pdisk_Disk_Pending_7, e3, e10, e11, outOf, -List.reduceReplicate]
    exact hk _ _ hu
theorem w_disk_New {n : Int} (hb : ¬ (1 ≤ n ∧ n ≤ 4096) → K (.tuple [.nilP, .int .i64 2]) B) (hk : 1 ≤ n ∧ n ≤ 4096 → ∀ g B', DskAt B g (Dsk.fresh n.toNat) B' → K (.tuple [.ptr g 0, .int .i64 0]) B') : SimX Try.prog F_disk_New [.int .i64 n] B (outK K Kp) := by
  refine j_disk_New (by simp) ?_
  by_cases hn : 1 ≤ n ∧ n ≤ 4096
  · have hk := hk hn
    have c1 : ¬ n < 1 := by omega
    have c2 : ¬ 4096 < n := by omega
    obtain ⟨m, rfl⟩ : ∃ m : Nat, n = m := ⟨n.toNat, by omega⟩
    simp -implicitDefEqProofs [a_disk_New, q_disk_New_0, q_disk_New_1, q_disk_New_3, c1, c2, outOf, -List.reduceReplicate]
    refine ⟨by omega, fun gl hl gm n1 n1' hm g n2 n2' n3 n3' hg => ?_⟩
    refine hk g _ ⟨gl, .nilS, gm, Dsk.fresh_wf (by omega), hg, hl, hm, by simp [dskC, Dsk.fresh], ?_, SlR.nil (sub_new (sub_new (sub_none hl) ?_) ?_), [], by simp [n2, n2'], NowOK.nil⟩
    · simp [n3, n3', n1, n1', Dsk.fresh, secs, secV, ints_z, zsec, -List.reduceReplicate]
    · simp [n1, n1', hm]
    · simp [n2, n2', n3, n3', hg]
  · have hb := hb hn
    by_cases c1 : n < 1
    · simp -implicitDefEqProofs [a_disk_New, q_disk_New_0, q_disk_New_1, q_disk_New_2, c1, outOf]
      exact hb
    · have c2 : 4096 < n := by omega
      simp -implicitDefEqProofs [a_disk_New, q_disk_New_0, q_disk_New_1, q_disk_New_2, c1, c2, outOf]
      exact hb
theorem w_disk_Twin (h : DskAt A g D B) (hwl : D.wait.length < 2 ^ 32) (hk : ∀ t B', DskAt B t D B' → K (.ptr t 0) B') : SimX Try.prog F_Pdisk_Disk_Twin [.ptr g 0] B (outK K Kp) := by
  have h0 := h
  obtain ⟨gl, v, gm, h⟩ := h
  refine j_Pdisk_Disk_Twin (by simp) ?_
  have h1 := h.at'
  unfold dskC at h1
  have hsc := h.wait.scl
  simp -implicitDefEqProofs [a_Pdisk_Disk_Twin, q_Pdisk_Disk_Twin_0, q_Pdisk_Disk_Twin_1, h1, hsc.size, hsc.shp, hsc.agg, hsc.good, hsc.comps]
  refine w_disk_Image h0 fun gi B1 hB1 => ?_
  simp -implicitDefEqProofs
  refine ⟨.inl hB1.sub, fun g8 h8 => ?_⟩
  refine (SlR.one h8 rfl).appS (C := B1.set g8 (.row 132 257 [])) (Sub_refl _) (h.wait.src (sub_tr hB1.sub (sub_none h8))) (wrs_sts _) (by simp; omega) fun gw n C hn hC => ?_
  rw [List.nil_append] at hn hC
  rw [wrs_length] at hn
  subst hn
  have f1' := hB1.sub _ _ h1
  have f1 := hC.sub _ _ f1'
  have n8 := fresh_ne f1' h8
  simp -implicitDefEqProofs
  refine ⟨.inr (by rw [Heap.set_ne _ _ n8, f1, f1']), fun gm' hm' t t1 t2 ht => ?_⟩
  have n1 := fresh_ne f1 hm'
  have n2 := fresh_ne f1 ht
  have hB2 := hC.base hB1.sub
  have hB1' := hB1.mono hC.sub
  simp -implicitDefEqProofs [q_Pdisk_Disk_Twin_2, n1, n2, f1, hsc.size, hsc.shp, hsc.agg, hsc.good, hsc.comps, h.wait.len]
  have iC : C gi = some (.row T_256_uint8 256 (secs D.last)) := by
    rcases hB1'.own with ⟨e, _⟩ | ⟨x, e, _, hx⟩
    · cases e
    · injection e with e _ _; subst e; exact hx
  have iB : B gi = none := by
    rcases hB1'.own with ⟨e, _⟩ | ⟨x, e, hx, _⟩
    · cases e
    · injection e with e _ _; subst e; exact hx
  have i1 := fresh_ne iC hm'
  have i2 := fresh_ne iC ht
  have hBm := sub_noneL hB2.sub hm'
  have hBt := sub_noneL hB2.sub ht
  refine X_lp (fun (i : Nat) env X => i ≤ D.wait.length ∧ env 3 = .ptr t 0 ∧ env 32 = v ∧ env 33 = .int .i64 D.wait.length ∧ env 34 = .int .i64 i ∧ X t = some (dskC gi (.own gw 0 D.wait.length) gm' D) ∧ X gi = some (.row T_256_uint8 256 (secs D.last)) ∧
      SlR T_disk_write 257 (.own gw 0 D.wait.length) (wrs D.wait) B X ∧ ∃ m, X gm' = some (.mp .i64 m) ∧ NowOK m (D.wait.take i)) (fun i => D.wait.length - i) 0
    ⟨by omega, by simp, by simp, by simp, by simp, by simp [dskC], by simp [i1, i2, iC], ?_, [], by simp [t2], by simpa using NowOK.nil⟩ ?_
  · exact hB2.mono (sub_new (sub_none hm') (by simp [t1, t2, ht]))
  clear f1 iC hC hB1 hB1' hB2
  rintro i env X ⟨hi, e3, e32, e33, e34, ft, fi, hw, m, fm, hnow⟩
  have nt := hw.ne ft (fun l e => by cases e)
  have nm := hw.ne fm (fun l e => by cases e)
  by_cases hil : i < D.wait.length
  · have hil' : (i : Int) < D.wait.length := by omega
    have wi : IntKind.i64.wrap ((i : Int) + 1) = (i : Int) + 1 := wrap_i64 (by omega)
    obtain ⟨gv, hv, _, hgv⟩ := h.wait.pos (by simpa using Nat.lt_of_le_of_lt (Nat.zero_le _) hil)
    have hgv' := hw.sub _ _ hgv
    rw [wrs_length] at hv
    rw [hv] at e32
    have ft' := ft
    unfold dskC at ft'
    simp -implicitDefEqProofs [q_Pdisk_Disk_Twin_L7, q_Pdisk_Disk_Twin_3, q_Pdisk_Disk_Twin_4, e3, e32, e33, e34, hil, hil', hgv', wrs_getE, wrV, secV, -List.reduceReplicate]
    intro g5 h5
    have y1 := fresh_ne ft h5
    have y2 := fresh_ne fi h5
    have y3 := fresh_ne fm h5
    simp -implicitDefEqProofs [q_Pdisk_Disk_Twin_5, q_Pdisk_Disk_Twin_6, e3, e34, wi, ft', y1, y3, fm, -List.reduceReplicate]
    refine lp_next (i + 1) ⟨by omega, by simp [e3], by simp [e32, hv], by simp [e33], by simp, ?_, ?_, ?_, putM m (D.wait[i].1 : Nat) (secV D.wait[i].2), ?_, ?_⟩ (by omega)
    · simp [t2, Ne.symm t2, y1, ft]
    · have : gi ≠ gm' := by rintro rfl; rw [fi] at fm; cases fm
      simp [this, y2, fi]
    · exact (hw.mono (sub_none h5)).set hBm nm
    · simp [secV]
    · rw [List.take_succ_eq_append_getElem hil]; exact hnow.put _ _
  · have hie : i = D.wait.length := by omega
    subst hie
    rw [List.take_length] at hnow
    simp -implicitDefEqProofs [q_Pdisk_Disk_Twin_L7, q_Pdisk_Disk_Twin_3, q_Pdisk_Disk_Twin_7, e3, e33, e34, outOf, -List.reduceReplicate]
    exact hk _ _ ⟨gi, _, gm', h.wf, hBt, iB, hBm, ft, fi, hw, m, fm, hnow⟩
end
end Go.Proofs.Ytjbiekcldkjgjaa
