/- The walks of a disk's Read, Write, settle, Flush, Crash. -/
import Derived.Test.YtjbiekcldkjgjaaKb
namespace Go.Proofs.Ytjbiekcldkjgjaa
open Go AVL
attribute [-simp] AV.isAgg aappI aapp alen shp good comps
set_option linter.unusedVariables false
set_option linter.unusedSimpArgs false
set_option maxRecDepth 8000

def zsec : List Int := List.replicate 256 0
theorem ints_z : ints z256 = zsec := by simp [ints, z256, zsec]
def Dsk.rd (D : Dsk) (a : Int) : List Nat × Int := if D.inside a then if D.down then (z256, 4) else (D.val a.toNat, 0) else (z256, 2)
theorem Dsk.rd_sec {D : Dsk} (h : D.Wf) (a : Int) : Sec (D.rd a).1 := by
  unfold Dsk.rd
  split
  · split
    · exact sec_z
    · rename_i hi _
      simp only [Dsk.inside, Bool.and_eq_true, decide_eq_true_eq] at hi
      exact D.val_sec h (by omega)
  · exact sec_z
section
variable {A B : Heap} {g gl gm : Nat} {v : AV} {D : Dsk} {K Kp : AV → Heap → Prop}
theorem w_disk_Read (h : DskAt A g D B) {a : Int} (hk : ∀ B', B.Sub B' → K (.tuple [secV (D.rd a).1, .int .i64 (D.rd a).2]) B') : SimX Try.prog F_Pdisk_Disk_Read [.ptr g 0, .int .i64 a] B (outK K Kp) := by
  obtain ⟨gl, v, gm, h⟩ := h
  refine j_Pdisk_Disk_Read (by simp) ?_
  have h1 := h.at'
  unfold dskC at h1
  have hs := h.wait.scl
  obtain ⟨m, hm, hnow⟩ := h.now
  simp -implicitDefEqProofs [a_Pdisk_Disk_Read, q_Pdisk_Disk_Read_0, q_Pdisk_Disk_Read_1, -List.reduceReplicate]
  intro g4 h4
  have n1 := fresh_ne h1 h4
  have n2 := fresh_ne hm h4
  have n3 := fresh_ne h.row h4
  refine w_disk_inside (h.mono (sub_none h4)) ?_
  unfold secV Dsk.rd at hk
  cases hi : D.inside a
  · rw [hi] at hk
    simp [ints_z, zsec, -List.reduceReplicate] at hk
    simp -implicitDefEqProofs [hi, q_Pdisk_Disk_Read_2, outOf, -List.reduceReplicate]
    exact hk _ (sub_none h4)
  · rw [hi] at hk
    simp only [Dsk.inside, Bool.and_eq_true, decide_eq_true_eq] at hi
    cases hd : D.down
    · rw [hd] at hk
      obtain ⟨n, rfl⟩ : ∃ n : Nat, a = n := ⟨a.toNat, by omega⟩
      have hn : n < D.last.length := by omega
      have hni : (n : Int) < D.last.length := by omega
      simp at hk
      have hg := hnow n
      simp -implicitDefEqProofs [hi, hd, h1, n1, q_Pdisk_Disk_Read_3, q_Pdisk_Disk_Read_5, q_Pdisk_Disk_Read_6, hs.size, hs.shp, hs.agg, hs.good, hs.comps, hm, n2, hg, lkV, -List.reduceReplicate]
      unfold Dsk.val at hk
      rw [look_eq] at hk
      cases ho : lookO D.wait n with
      | some s =>
        rw [ho] at hk
        simp at hk
        simp -implicitDefEqProofs [secV, -List.reduceReplicate]
        intro g6 h6 n6 h6'
        simp -implicitDefEqProofs [q_Pdisk_Disk_Read_7, h6, n6, outOf, -List.reduceReplicate]
        exact hk _ (sub_set' (sub_new (sub_none h4) (by simp [h6, h6'])) h4)
      | none =>
        rw [ho] at hk
        simp [hn] at hk
        simp -implicitDefEqProofs [-List.reduceReplicate]
        intro g6 h6 n6 h6'
        have hrow := h.row
        have n6' := fresh_ne hrow h6'
        have n7 := fresh_ne h1 h6'
        simp -implicitDefEqProofs [q_Pdisk_Disk_Read_8, h1, n1, n3, n6, n6', n7, h6, hs.size, hs.shp, hs.agg, hs.good, hs.comps, hrow, hn, hni, secs_getE, secV, outOf, -List.reduceReplicate]
        exact hk _ (sub_set' (sub_new (sub_none h4) (by simp [h6, h6'])) h4)
    · rw [hd] at hk
      simp [ints_z, zsec, -List.reduceReplicate] at hk
      simp -implicitDefEqProofs [hi, hd, h1, n1, q_Pdisk_Disk_Read_3, q_Pdisk_Disk_Read_4, hs.size, hs.shp, hs.agg, hs.good, hs.comps, outOf, -List.reduceReplicate]
      exact hk _ (sub_none h4)
theorem w_disk_Write (h : DskAt A g D B) (hst : D.steps < 2 ^ 62) (hwl : D.wait.length < 2 ^ 32) {a : Int} {s : List Nat} (hs : Sec s)
    (hk : ∀ B', DskAt A g (if D.inside a then D.write a.toNat s else D) B' → K (.int .i64 (if D.inside a then codeOf D.ok else 2)) B') : SimX Try.prog F_Pdisk_Disk_Write [.ptr g 0, .int .i64 a, secV s] B (outK K Kp) := by
  obtain ⟨gl, v, gm, h⟩ := h
  refine j_Pdisk_Disk_Write (by simp) ?_
  simp -implicitDefEqProofs [a_Pdisk_Disk_Write, q_Pdisk_Disk_Write_0, q_Pdisk_Disk_Write_1, secV, -List.reduceReplicate]
  intro g5 h5
  refine w_disk_inside (h.mono (sub_none h5)) ?_
  cases hi : D.inside a
  · rw [hi] at hk
    simp at hk
    simp -implicitDefEqProofs [hi, q_Pdisk_Disk_Write_2, outOf, -List.reduceReplicate]
    exact hk _ (DskAt.mono ⟨gl, v, gm, h⟩ (sub_none h5))
  · rw [hi] at hk
    simp only [Dsk.inside, Bool.and_eq_true, decide_eq_true_eq] at hi
    obtain ⟨n, rfl⟩ : ∃ n : Nat, a = n := ⟨a.toNat, by omega⟩
    have hn : n < D.last.length := by omega
    simp at hk
    simp -implicitDefEqProofs [hi, q_Pdisk_Disk_Write_3, -List.reduceReplicate]
    refine w_disk_step (h.rebase h5) hst fun B1 hB1 => ?_
    obtain ⟨A1, hA1⟩ : ∃ X, A.set g5 (.var 78 [.iarr .u8 256 (ints s)]) = X := ⟨_, rfl⟩
    have hAA : A.Sub A1 := by rw [← hA1]; exact sub_none (sub_noneL h.wait.sub h5)
    have hA5 : A1 g5 = some (.var 78 [.iarr .u8 256 (ints s)]) := by rw [← hA1]; simp
    rw [hA1] at hB1
    clear hA1
    cases hok : D.ok
    · simp -implicitDefEqProofs [codeOf, q_Pdisk_Disk_Write_4, q_Pdisk_Disk_Write_5, outOf, -List.reduceReplicate]
      rw [hok] at hk
      refine hk _ (DskAt.base ⟨gl, v, gm, ?_⟩ hAA)
      simpa [Dsk.write, hok] using hB1
    · obtain ⟨X, x1, x2, x3, x4, x5⟩ := hB1.wait.top
      obtain ⟨m, hm, hnow⟩ := hB1.now
      have h1 := hB1.at'
      have hng := hB1.wait.not_base (x := g5) hA5
      have hag := hB1.ag
      have f5 := hB1.wait.sub _ _ hA5
      have hg5 : g5 ≠ g := by rintro rfl; rw [hA5] at hag; cases hag
      have vg := hB1.wait.ne h1 (fun l e => by cases e)
      have vm := hB1.wait.ne hm (fun l e => by cases e)
      have vl := hB1.wait.ne hB1.row (fun l e => by cases e)
      have xg := x4 _ _ h1 vg
      have xm := x4 _ _ hm vm
      have xl := x4 _ _ hB1.row vl
      have x6 := x4 _ _ f5 hng
      unfold dskC at h1 xg
      have hsc := hB1.wait.scl
      simp -implicitDefEqProofs [codeOf, q_Pdisk_Disk_Write_4, q_Pdisk_Disk_Write_6, h1, f5, hsc.size, hsc.shp, hsc.agg, hsc.good, hsc.comps, -List.reduceReplicate]
      intro g25 h25
      refine x3.app (ys := [wrV (n, s)]) (bytes := 264) (C := B1.set g25 (.row 132 257 [wrV (n, s)])) (by simp) (by simp [wrV, secV]) (sub_none h25) h25 (by simp [D.step_wait]; omega) fun v' C' hC' hv' => ?_
      have c1 := hC'.sub _ _ xg
      have c2 := hC'.sub _ _ xm
      have c3 := hC'.sub _ _ xl
      have c5 := hC'.sub _ _ x6
      have nm : gm ≠ g := hB1.gm_g
      have nl : gl ≠ g := hB1.gl_g
      have nml : gm ≠ gl := hB1.gm_gl
      have hsc' := hC'.scl
      simp -implicitDefEqProofs [c1, hsc.size, hsc'.size, hsc'.st, hsc'.shp, hsc'.agg, hsc'.good, hsc'.comps, q_Pdisk_Disk_Write_7, q_Pdisk_Disk_Write_8, nm, hg5, c5, c2, outOf, -List.reduceReplicate]
      rw [hok] at hk
      refine hk _ ⟨gl, v', gm, ?_⟩
      have hw : D.write n s = { D.step with wait := D.wait ++ [(n, s)] } := by simp [Dsk.write, hok]
      have hwf := D.write_wf h.wf hn hs
      rw [hw] at hwf ⊢
      have hC2 := ((hC'.base (sub_tr hAA x1)).set (c := dskC gl v' gm { D.step with wait := D.wait ++ [(n, s)] }) h.ag (hC'.not_base xg)).set (c := .mp .i64 (putM m n (secV s))) h.am (hC'.not_base xm)
      rw [D.step_wait, ← wrs_snoc] at hC2
      rw [D.step_wait] at hnow
      refine ⟨hwf, h.ag, h.al, h.am, by simp [Ne.symm nm, dskC], by simp [nl, Ne.symm nml, c3], hC2, _, set_eq', hnow.put n s⟩
theorem w_disk_settle (h : DskIn A g gl v gm D B) (hwl : D.wait.length < 2 ^ 32) (keep : Nat → Bool) {fv : AV} {f : FuncId} {cap : List AV} (hf : fv = .func (.func f) [] cap) (hcl : callable Try.prog f = true)
    (hcall : ∀ (i : Nat) (C : Heap) (K Kp : AV → Heap → Prop), i < D.wait.length → A.Sub C → (∀ C', C.Sub C' → K (.bool (keep i)) C') → SimX Try.prog f (.int .i64 i :: cap) C (outK K Kp))
    (hk : ∀ B', DskAt A g (D.settle keep) B' → K (.int .i64 (stn keep D.wait.length)) B') : SimX Try.prog F_Pdisk_Disk_settle [.ptr g 0, fv] B (outK K Kp) := by
  subst hf
  have hwf0 := h.wf
  refine j_Pdisk_Disk_settle (by simp) ?_
  have h1 := h.at'
  unfold dskC at h1
  have hsc := h.wait.scl
  simp -implicitDefEqProofs [a_Pdisk_Disk_settle, q_Pdisk_Disk_settle_0, q_Pdisk_Disk_settle_1, q_Pdisk_Disk_settle_2, h1, hsc.size, hsc.shp, hsc.agg, hsc.good, hsc.comps, h.wait.len, -List.reduceReplicate]
  refine X_lp (fun (i : Nat) env B => i ≤ D.wait.length ∧ env 0 = .ptr g 0 ∧ env 1 = .func (.func f) [] cap ∧ env 5 = .int .i64 (stn keep i) ∧ env 11 = v ∧ env 12 = .int .i64 D.wait.length ∧ env 13 = .int .i64 i ∧ DskIn A g gl v gm { D with last := stl keep D.wait D.last i } B) (fun i => D.wait.length - i) 0
    ⟨by omega, by simp, by simp, by simp [stn], by simp, by simp, by simp, h⟩ ?_
  clear h h1
  rintro i env B ⟨hi, e0, e1, e5, e11, e12, e13, hd⟩
  have h1 := hd.at'
  unfold dskC at h1
  have hsn := stn_le keep i
  by_cases hil : i < D.wait.length
  · have hil' : (i : Int) < D.wait.length := by omega
    have wi : IntKind.i64.wrap ((i : Int) + 1) = (i : Int) + 1 := wrap_i64 (by omega)
    have ws : IntKind.i64.wrap (((stn keep i : Nat) : Int) + 1) = ((stn keep i + 1 : Nat) : Int) := by rw [wrap_i64 (by omega)]; omega
    obtain ⟨gw, rfl, hgA, hgw⟩ := hd.wait.pos (by simpa using Nat.lt_of_le_of_lt (Nat.zero_le _) hil)
    obtain ⟨D', hD'⟩ : ∃ x, { D with last := stl keep D.wait D.last i } = x := ⟨_, rfl⟩
    have dw : D'.wait = D.wait := by rw [← hD']
    have dl : D'.last.length = D.last.length := by rw [← hD']; simp
    rw [hD'] at h1 hd hgw
    rw [hD', dw] at e11
    rw [dw] at hgw
    have hwgt := hd.wf.wait D.wait[i] (by rw [dw]; exact List.getElem_mem hil)
    simp -implicitDefEqProofs [q_Pdisk_Disk_settle_L9, q_Pdisk_Disk_settle_3, q_Pdisk_Disk_settle_4, e0, e1, e5, e11, e12, e13, hil, hil', hgw, wrs_getE, wrV, secV, -List.reduceReplicate]
    intro g7 h7
    have n1 := fresh_ne h1 h7
    have n2 := fresh_ne hgw h7
    have n3 := fresh_ne hd.row h7
    simp -implicitDefEqProofs [q_Pdisk_Disk_settle_5, e1, hcl, -List.reduceReplicate]
    refine hcall i _ _ _ hil (sub_new hd.wait.sub h7) fun C hC => ?_
    have c1 := hC g _ (by rw [Heap.set_ne _ _ n1]; exact h1)
    have c3 := hC gl _ (by rw [Heap.set_ne _ _ n3]; exact hd.row)
    have c7 := hC g7 _ (by simp; rfl)
    have hd2 := (hd.mono (sub_none h7)).mono hC
    have hst := stl_succ (keep := keep) (L := D.last) hil
    cases hkp : keep i
    · rw [hkp] at hst
      simp -implicitDefEqProofs [q_Pdisk_Disk_settle_8, e13, wi, -List.reduceReplicate]
      refine lp_next (i + 1) ⟨by omega, by simp [e0], by simp [e1], by simp [e5, stn, hkp], by simp [e11, dw], by simp [e12], by simp, ?_⟩ (by omega)
      rw [hst]
      simpa [hD', dw] using hd2
    · rw [hkp] at hst
      have hws : D.wait[i].1 < D'.last.length := hwgt.1
      simp -implicitDefEqProofs [q_Pdisk_Disk_settle_6, q_Pdisk_Disk_settle_7, q_Pdisk_Disk_settle_8, e0, e13, e5, wi, ws, c1, c3, c7, hws, secs_getE, secV, -List.reduceReplicate]
      have hd3 := hd2.store D.wait[i].1 hwgt.2
      refine lp_next (i + 1) ⟨by omega, by simp [e0], by simp [e1], by simp [stn, hkp], by simp [e11, dw], by simp [e12], by simp, ?_⟩ (by omega)
      rw [hst]
      subst hD'
      simpa [secV] using hd3
  · have hie : i = D.wait.length := by omega
    subst hie
    simp -implicitDefEqProofs [q_Pdisk_Disk_settle_L9, q_Pdisk_Disk_settle_3, q_Pdisk_Disk_settle_9, q_Pdisk_Disk_settle_10, e0, e1, e5, e11, e12, e13, outOf, -List.reduceReplicate]
    intro gm' hgm'
    have n1 := fresh_ne h1 hgm'
    simp -implicitDefEqProofs [n1, h1, hsc.size, hsc.shp, hsc.agg, hsc.good, hsc.comps, outOf, -List.reduceReplicate]
    refine hk _ ⟨gl, .nilS, gm', ?_⟩
    have hA' := sub_noneL hd.wait.sub hgm'
    have n2 := fresh_ne hd.row hgm'
    exact ⟨Dsk.settle_wf hwf0 keep, hd.ag, hd.al, hA', by simp [dskC, Dsk.settle], by simp [hd.gl_g, n2, hd.row, Dsk.settle], SlR.nil (sub_set' (sub_new hd.wait.sub hgm') hd.ag), [], by simp [Ne.symm n1], NowOK.nil⟩
theorem w_disk_Flush (h : DskAt A g D B) (hst : D.steps < 2 ^ 62) (hwl : D.wait.length < 2 ^ 32) (hk : ∀ B', DskAt A g D.flush B' → K (.int .i64 (codeOf D.ok)) B') : SimX Try.prog F_Pdisk_Disk_Flush [.ptr g 0] B (outK K Kp) := by
  obtain ⟨gl, v, gm, h⟩ := h
  refine j_Pdisk_Disk_Flush (by simp) ?_
  simp -implicitDefEqProofs [a_Pdisk_Disk_Flush, q_Pdisk_Disk_Flush_0, q_Pdisk_Disk_Flush_1]
  refine w_disk_step h hst fun B1 hB1 => ?_
  unfold Dsk.flush at hk
  cases hok : D.ok
  · rw [hok] at hk
    simp -implicitDefEqProofs [codeOf, q_Pdisk_Disk_Flush_2, q_Pdisk_Disk_Flush_3, outOf]
    exact hk _ ⟨_, _, _, hB1⟩
  · rw [hok] at hk
    simp -implicitDefEqProofs [codeOf, q_Pdisk_Disk_Flush_2, q_Pdisk_Disk_Flush_4]
    refine w_disk_settle hB1 (by rw [D.step_wait]; exact hwl) (fun _ => true) rfl k_Pdisk_Disk_Flush_1 (fun i C K Kp _ _ hk => ?_) fun B2 hB2 => ?_
    · refine j_Pdisk_Disk_Flush_1 (by simp) ?_
      simp -implicitDefEqProofs [a_Pdisk_Disk_Flush_1, q_Pdisk_Disk_Flush_1_0, q_Pdisk_Disk_Flush_1_1, outOf]
      exact hk _ (Sub_refl _)
    · simp -implicitDefEqProofs [q_Pdisk_Disk_Flush_5, outOf]
      exact hk _ hB2
def bls (l : List Bool) : List AV := l.map .bool
@[simp] theorem bls_length (l : List Bool) : (bls l).length = l.length := by simp [bls]
theorem bls_getE {l : List Bool} {i : Nat} (h : i < (bls l).length) : (bls l)[i] = .bool (l[i]'(by simpa using h)) := by simp [bls]
/-- Where the list of what is kept lies. -/
def KeepV (A : Heap) (kv : AV) (l : List Bool) : Prop := kv = .dsl 1 (bls l) ∨ ∃ gk, kv = .own gk 0 l.length ∧ A gk = some (.row T_bool 1 (bls l))
theorem w_disk_Crash (h : DskAt A g D B) (hwl : D.wait.length < 2 ^ 32) {kv : AV} {keep : List Bool} (hkv : KeepV A kv keep) (hk : ∀ B', DskAt A g (D.crash keep) B' → K (.int .i64 (stn (keeps keep) D.wait.length)) B') : SimX Try.prog F_Pdisk_Disk_Crash [.ptr g 0, kv] B (outK K Kp) := by
  obtain ⟨gl, v, gm, h⟩ := h
  refine j_Pdisk_Disk_Crash (by simp) ?_
  have hks : kv.isAgg = false ∧ good kv = true ∧ comps kv = [kv] ∧ kv.st = true ∧ shp .sc [kv] = some kv ∧ kv.size = 1 := by
    rcases hkv with rfl | ⟨gk, rfl, _⟩ <;> exact ⟨rfl, rfl, rfl, rfl, rfl, rfl⟩
  obtain ⟨k1, k2, k3, k4, k5, k6⟩ := hks
  have h1 := h.at'
  unfold dskC at h1
  have hsc := h.wait.scl
  simp -implicitDefEqProofs [a_Pdisk_Disk_Crash, q_Pdisk_Disk_Crash_0, q_Pdisk_Disk_Crash_1, k1, k2, k3, k4, k5, k6]
  intro g3 h3
  have n1 := fresh_ne h1 h3
  simp -implicitDefEqProofs [h1, n1, hsc.size, hsc.shp, hsc.agg, hsc.good, hsc.comps, q_Pdisk_Disk_Crash_2, pop]
  have hA3 := sub_noneL h.wait.sub h3
  have hb := ((h.rebase (c := .var 72 [kv]) h3).nums D.steps (f := -1) (by decide) false)
  have hkA : KeepV (A.set g3 (.var 72 [kv])) kv keep := hkv.imp id fun ⟨gk, e1, e2⟩ => ⟨gk, e1, by rw [Heap.set_ne _ _ (fresh_ne e2 hA3)]; exact e2⟩
  have hA33 : (A.set g3 (.var 72 [kv])) g3 = some (.var 72 [kv]) := by simp
  obtain ⟨A3, hA3'⟩ : ∃ X, A.set g3 (.var 72 [kv]) = X := ⟨_, rfl⟩
  have hAA : A.Sub A3 := by rw [← hA3']; exact sub_none hA3
  rw [hA3'] at hb hkA hA33
  refine w_disk_settle hb hwl (keeps keep) rfl k_Pdisk_Disk_Crash_1 (fun i C K Kp hi hs hk => ?_) fun B2 hB2 => ?_
  · refine j_Pdisk_Disk_Crash_1 (by simp) ?_
    have c3 := hs _ _ hA33
    unfold keeps at hk
    by_cases hil : i < keep.length
    · have hil' : (i : Int) < keep.length := by omega
      rw [List.getD_eq_getElem?_getD, List.getElem?_eq_getElem hil] at hk
      rcases hkA with rfl | ⟨gk, rfl, hgk⟩
      · simp -implicitDefEqProofs [a_Pdisk_Disk_Crash_1, q_Pdisk_Disk_Crash_1_0, q_Pdisk_Disk_Crash_1_1, c3, hil, hil', bls_getE, outOf]
        exact hk _ (Sub_refl _)
      · have ck := hs _ _ hgk
        simp -implicitDefEqProofs [a_Pdisk_Disk_Crash_1, q_Pdisk_Disk_Crash_1_0, q_Pdisk_Disk_Crash_1_1, c3, ck, hil, hil', bls_getE, outOf]
        exact hk _ (Sub_refl _)
    · have hil' : ¬ (i : Int) < keep.length := by omega
      rw [List.getD_eq_getElem?_getD, List.getElem?_eq_none (by omega)] at hk
      rcases hkA with rfl | ⟨gk, rfl, hgk⟩
      · simp -implicitDefEqProofs [a_Pdisk_Disk_Crash_1, q_Pdisk_Disk_Crash_1_0, q_Pdisk_Disk_Crash_1_1, c3, hil, hil', outOf]
        exact hk _ (Sub_refl _)
      · simp -implicitDefEqProofs [a_Pdisk_Disk_Crash_1, q_Pdisk_Disk_Crash_1_0, q_Pdisk_Disk_Crash_1_1, c3, hil, hil', outOf]
        exact hk _ (Sub_refl _)
  · simp -implicitDefEqProofs [outOf]
    refine hk _ (hB2.base hAA)
end
end Go.Proofs.Ytjbiekcldkjgjaa
