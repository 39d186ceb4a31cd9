/- The walks of the reference's disk. -/
import Derived.Test.YtjbiekcldkjgjaaKd
namespace Go.Proofs.Ytjbiekcldkjgjaa
open Go AVL
attribute [-simp] AV.isAgg aappI aapp alen shp good comps
set_option linter.unusedVariables false
set_option linter.unusedSimpArgs false
set_option maxRecDepth 8000

/-- The reference's disk, whose rows lie in A. -/
def RefIn (A : Heap) (rv : AV) (D : Dsk) : Prop := ∃ gl wv, rv = .agg [.own gl 0 D.last.length, wv, .int .i64 D.steps, .int .i64 D.fuse, .bool D.down] ∧ A gl = some (.row T_256_uint8 256 (secs D.last)) ∧ SlR T_ref06_Write 257 wv (wrs D.wait) H0 A
theorem RefIn.mono {A B : Heap} {rv : AV} {D : Dsk} (h : RefIn A rv D) (hs : A.Sub B) : RefIn B rv D :=
  let ⟨gl, wv, e, h1, h2⟩ := h
  ⟨gl, wv, e, hs _ _ h1, h2.mono hs⟩
theorem RefIn.poke {A : Heap} {rv : AV} {D : Dsk} {x : Nat} {t : TypeId} {l : List AV} {c : Cont} (h : RefIn A rv D) (hx : A x = some (.var t l)) : RefIn (A.set x c) rv D := by
  obtain ⟨gl, wv, e, h1, h2⟩ := h
  have n1 : gl ≠ x := by rintro rfl; rw [h1] at hx; cases hx
  exact ⟨gl, wv, e, by simp [n1, h1], h2.set rfl (h2.ne hx fun l e => by cases e)⟩
def refC (gl n : Nat) (wv : AV) (D : Dsk) : List AV := [.own gl 0 n, wv, .int .i64 D.steps, .int .i64 D.fuse, .bool D.down]
section
variable {A B : Heap} {rv : AV} {D : Dsk} {K Kp : AV → Heap → Prop}
theorem w_ref06_step {gl n : Nat} {wv : AV} (hw : Scl wv) (hwf : D.Wf) (hst : D.steps < 2 ^ 62) : Gives Try.prog F_ref06_step [.agg (refC gl n wv D)] (.tuple [.agg (refC gl n wv D.step), .bool D.ok]) := by
  refine v_ref06_step (by simp) ?_
  have hfu := hwf.fuse
  have wst : IntKind.i64.wrap ((D.steps : Int) + 1) = (D.steps : Int) + 1 := wrap_i64 (by omega)
  unfold refC
  simp -implicitDefEqProofs [a_ref06_step, q_ref06_step_0, hw.size, hw.shp, hw.agg, hw.good, hw.comps, hw.st]
  intro g1 g2 n2 n2'
  simp -implicitDefEqProofs [q_ref06_step_1, hw.size, hw.shp, hw.agg, hw.good, hw.comps, hw.st, n2, n2']
  intro g4 n4 n4' n5 n5'
  by_cases hd : D.down = true
  · have e1 : D.ok = false := by simp [Dsk.ok, hd]
    have e2 : D.step = { D with down := true } := by simp [Dsk.step, hd]
    simp -implicitDefEqProofs [q_ref06_step_2, q_ref06_step_3, q_ref06_step_4, hw.size, hw.shp, hw.agg, hw.good, hw.comps, hw.st, n2, n2', n4, n4', n5, n5', hd, e1, e2, outOf]
  · have hd' : D.down = false := by simpa using hd
    by_cases hf : D.fuse = 0
    · have e1 : D.ok = false := by simp [Dsk.ok, hf]
      have e2 : D.step = { D with down := true } := by simp [Dsk.step, hf]
      simp -implicitDefEqProofs [q_ref06_step_2, q_ref06_step_3, q_ref06_step_4, hw.size, hw.shp, hw.agg, hw.good, hw.comps, hw.st, n2, n2', n4, n4', n5, n5', hd', hf, e1, e2, outOf]
    · have e1 : D.ok = true := by simp [Dsk.ok, hf, hd']
      by_cases hf0 : 0 < D.fuse
      · have e2 : D.step = { D with steps := D.steps + 1, fuse := D.fuse - 1 } := by simp [Dsk.step, hf, hd', hf0]
        have wf : IntKind.i64.wrap (D.fuse - 1) = D.fuse - 1 := wrap_i64 (by omega)
        simp -implicitDefEqProofs [q_ref06_step_2, q_ref06_step_5, q_ref06_step_6, q_ref06_step_7, q_ref06_step_8, hw.size, hw.shp, hw.agg, hw.good, hw.comps, hw.st, n2, n2', n4, n4', n5, n5', hd', hf, hf0, wf, wst, e1, e2, outOf]
      · have e2 : D.step = { D with steps := D.steps + 1 } := by simp [Dsk.step, hf, hd', hf0]
        simp -implicitDefEqProofs [q_ref06_step_2, q_ref06_step_5, q_ref06_step_7, q_ref06_step_8, hw.size, hw.shp, hw.agg, hw.good, hw.comps, hw.st, n2, n2', n4, n4', n5, n5', hd', hf, hf0, wst, e1, e2, outOf]
theorem w_ref06_Fuse {gl m : Nat} {wv : AV} (hw : Scl wv) {n : Int} : Gives Try.prog F_ref06_Fuse [.agg (refC gl m wv D), .int .i64 n] (.agg (refC gl m wv (D.setFuse n))) := by
  refine v_ref06_Fuse (by simp) ?_
  unfold refC Dsk.setFuse
  simp -implicitDefEqProofs [a_ref06_Fuse, q_ref06_Fuse_0, hw.size, hw.shp, hw.agg, hw.good, hw.comps, hw.st]
  intro g2 g4 n2 n2'
  simp -implicitDefEqProofs [q_ref06_Fuse_1, hw.size, hw.shp, hw.agg, hw.good, hw.comps, hw.st, n2, n2']
  intro g5 n4 n4' n5 n5'
  by_cases h0 : n < 0
  · simp -implicitDefEqProofs [q_ref06_Fuse_2, q_ref06_Fuse_3, q_ref06_Fuse_4, q_ref06_Fuse_5, hw.size, hw.shp, hw.agg, hw.good, hw.comps, hw.st, n2, n2', n4, n4', n5, n5', h0, outOf]
  · simp -implicitDefEqProofs [q_ref06_Fuse_2, q_ref06_Fuse_3, q_ref06_Fuse_5, hw.size, hw.shp, hw.agg, hw.good, hw.comps, hw.st, n2, n2', n4, n4', n5, n5', h0, outOf]
theorem w_ref06_New {n : Int} (hb : ¬ (1 ≤ n ∧ n ≤ 4096) → K (.tuple [.agg [.nilS, .nilS, .int .i64 0, .int .i64 0, .bool false], .int .i64 2]) B)
    (hk : 1 ≤ n ∧ n ≤ 4096 → ∀ g, B g = none → RefIn (B.set g (.row T_256_uint8 256 (secs (Dsk.fresh n.toNat).last))) (.agg (refC g n.toNat .nilS (Dsk.fresh n.toNat))) (Dsk.fresh n.toNat) → K (.tuple [.agg (refC g n.toNat .nilS (Dsk.fresh n.toNat)), .int .i64 0]) (B.set g (.row T_256_uint8 256 (secs (Dsk.fresh n.toNat).last)))) :
    SimX Try.prog F_ref06_New [.int .i64 n] B (outK K Kp) := by
  by_cases hn : 1 ≤ n ∧ n ≤ 4096
  · have hk := hk hn
    have c1 : ¬ n < 1 := by omega
    have c2 : ¬ 4096 < n := by omega
    obtain ⟨m, rfl⟩ : ∃ m : Nat, n = m := ⟨n.toNat, by omega⟩
    refine i_ref06_New (by simp) fun R hR => ?_
    simp -implicitDefEqProofs [a_ref06_New, q_ref06_New_0, q_ref06_New_1, q_ref06_New_3, c1, c2, -List.reduceReplicate]
    intro g2 h2
    refine ⟨by omega, fun g h1 h3 h4 => ?_⟩
    have hl : secs (Dsk.fresh m).last = List.replicate m (.iarr .u8 256 (List.replicate 256 0)) := by simp [Dsk.fresh, secs, secV, ints_z, zsec, -List.reduceReplicate]
    have := hk g h4 ⟨g, .nilS, by simp [refC, Dsk.fresh], by simp, SlR.nil (H0_sub _)⟩
    simp only [Int.toNat_natCast, hl] at this
    simp -implicitDefEqProofs [h1, h3, -List.reduceReplicate]
    refine hR _ _ _ ?_
    simp -implicitDefEqProofs [fpost, a_ref06_New, h1, h3, outOf, -List.reduceReplicate]
    refine ⟨_, ?_, by simpa [refC, Dsk.fresh] using this⟩
    exact sub_set' (set_sub (sub_none h2)) (by simp [h1, h3, h2])
  · have hb := hb hn
    refine i_ref06_New (by simp) fun R hR => ?_
    by_cases c1 : n < 1
    · simp -implicitDefEqProofs [a_ref06_New, q_ref06_New_0, q_ref06_New_1, q_ref06_New_2, c1]
      intro g2 h2
      refine hR _ _ _ ?_
      simp -implicitDefEqProofs [fpost, a_ref06_New, outOf]
      exact ⟨B, sub_none h2, hb⟩
    · have c2 : 4096 < n := by omega
      simp -implicitDefEqProofs [a_ref06_New, q_ref06_New_0, q_ref06_New_1, q_ref06_New_2, c1, c2]
      intro g2 h2
      refine hR _ _ _ ?_
      simp -implicitDefEqProofs [fpost, a_ref06_New, outOf]
      exact ⟨B, sub_none h2, hb⟩
theorem w_ref06_keeps {l : List Bool} {all : Bool} {i : Nat} (hi : i < 2 ^ 62) : Gives Try.prog F_ref06_keeps [.dsl 1 (bls l), .bool all, .int .i64 i] (.bool (all || keeps l i)) := by
  refine v_ref06_keeps (by simp) ?_
  unfold keeps
  cases all
  · by_cases hil : i < l.length
    · have hil' : (i : Int) < l.length := by omega
      simp -implicitDefEqProofs [a_ref06_keeps, q_ref06_keeps_0, q_ref06_keeps_1, hil, hil', bls_getE, outOf]
    · have hil' : ¬ (i : Int) < l.length := by omega
      simp -implicitDefEqProofs [a_ref06_keeps, q_ref06_keeps_0, q_ref06_keeps_1, hil, hil', outOf]
  · simp -implicitDefEqProofs [a_ref06_keeps, q_ref06_keeps_0, q_ref06_keeps_1, outOf]
theorem w_ref06_settle (h : RefIn A rv D) (hwf : D.Wf) (hA : A.Sub B) (hwl : D.wait.length < 2 ^ 32) {kv : AV} {keep : List Bool} (hv : ∀ C, B.Sub C → Vw C kv (.dsl 1 (bls keep))) (hva : kv.isAgg = false) (all : Bool)
    (hk : ∀ rv' B', B.Sub B' → RefIn (A.plus B B') rv' (D.settle fun i => all || keeps keep i) → K (.tuple [rv', .int .i64 (stn (fun i => all || keeps keep i) D.wait.length)]) B') : SimX Try.prog F_ref06_settle [rv, kv, .bool all] B (outK K Kp) := by
  obtain ⟨gl, wv, rfl, hgl, hwv⟩ := h
  have hw := hwv.scl
  have hwB := hwv.mono hA
  refine j_ref06_settle (by simp) ?_
  simp -implicitDefEqProofs [a_ref06_settle, q_ref06_settle_0, hw.size, hw.shp, hw.agg, hw.good, hw.comps, hw.st]
  intro g3 h3 g6 n6 n6' h6
  simp -implicitDefEqProofs [q_ref06_settle_1, hw.size, hw.shp, hw.agg, hw.good, hw.comps, hw.st, n6, n6']
  intro g8 n8 n8' m8 m8' h8
  have hglB := hA _ _ hgl
  have y3 := fresh_ne hglB h3
  have y6 := fresh_ne hglB h6
  have y8 := fresh_ne hglB h8
  have hsz := hwf.size
  simp -implicitDefEqProofs [q_ref06_settle_2, q_ref06_settle_3, hw.size, hw.shp, hw.agg, hw.good, hw.comps, hw.st, n6, n6', n8, n8', m8, m8']
  refine (SlR.nil (e := 78) (sz := 256) (Sub_refl _)).appS (bytes := 256) (ys := secs D.last) (Sub_refl _) (src_row (e := T_256_uint8) (by simp [y3, y6, y8]; exact hglB) (by simp)) (secs_sts _) (by simp; omega) fun gn n C hn hC => ?_
  rw [List.nil_append] at hn hC
  rw [secs_length] at hn
  subst hn
  obtain ⟨hn0, hn1, _, _⟩ := hC.at
  simp only [set_none] at hn0
  obtain ⟨z8, z8', ⟨z6, z6', ⟨z3, z3', zB⟩⟩⟩ := hn0
  have f3 := hC.sub g3 _ (by simp [m8, m8', n6, n6']; rfl)
  have f6 := hC.sub g6 _ (by simp [n8, n8']; rfl)
  have f8 := hC.sub g8 _ (by simp; rfl)
  have fB : B.Sub C := sub_tr (sub_new (sub_new (sub_none h3) (by simp [n6, n6', h6])) (by simp [n8, n8', m8, m8', h8])) hC.sub
  simp -implicitDefEqProofs [q_ref06_settle_4, q_ref06_settle_5, q_ref06_settle_6, f8, hw.size, hw.shp, hw.agg, hw.good, hw.comps, hw.st]
  clear hC
  obtain ⟨kp, hkp⟩ : ∃ kp, (fun i => all || keeps keep i) = kp := ⟨_, rfl⟩
  have hke : ∀ i, kp i = (all || keeps keep i) := fun i => by rw [← hkp]
  rw [hkp] at hk
  refine X_lp (fun (i : Nat) env X => i ≤ D.wait.length ∧ env 1 = kv ∧ env 2 = .bool all ∧ env 3 = .ptr g3 0 ∧ env 6 = .ptr g6 0 ∧ env 8 = .ptr g8 0 ∧ env 9 = .int .i64 (stn kp i) ∧ env 10 = .int .i64 i ∧
      X g3 = some (.var 67 (refC gl D.last.length wv D)) ∧ X g6 = some (.var 67 [.nilS, .nilS, .int .i64 0, .int .i64 0, .bool false]) ∧ X g8 = some (.var 67 (refC gn D.last.length .nilS D)) ∧ X gn = some (.row 78 256 (secs (stl kp D.wait D.last i))) ∧ B.Sub X) (fun i => D.wait.length - i) 0
    ⟨by omega, by simp, by simp, by simp, by simp, by simp, by simp [stn], by simp, by simp [m8, m8', f3, refC], by simp [n8, n8', f6], by simp [refC], by simp [z8, z8', hn1, stl], sub_set' fB h8⟩ ?_
  clear f3 f6 f8 fB hn1
  rintro i env X ⟨hi, e1, e2, e3, e6, e8, e9, e10, f3, f6, f8, fn, fB⟩
  unfold refC at f3 f8
  have hsn := stn_le kp i
  have hwX := hwB.mono fB
  by_cases hil : i < D.wait.length
  · have hil' : (i : Int) < D.wait.length := by omega
    have wi : IntKind.i64.wrap ((i : Int) + 1) = (i : Int) + 1 := wrap_i64 (by omega)
    have ws : IntKind.i64.wrap (((stn kp i : Nat) : Int) + 1) = ((stn kp i + 1 : Nat) : Int) := by rw [wrap_i64 (by omega)]; omega
    have hst := stl_succ (keep := kp) (L := D.last) hil
    obtain ⟨hwa, hwb⟩ := hwf.wait D.wait[i] (List.getElem_mem hil)
    obtain ⟨gw, hwe, _, fw⟩ := hwX.pos (by simpa using Nat.lt_of_le_of_lt (Nat.zero_le _) hil)
    rw [wrs_length] at hwe
    subst hwe
    simp -implicitDefEqProofs [q_ref06_settle_L12, q_ref06_settle_7, q_ref06_settle_8, e1, e2, e3, e8, e9, e10, hil, hil', f3, hva]
    refine (w_ref06_keeps (l := keep) (all := all) (i := i) (by omega)).call (.cons (hv _ fB) hva (.cons (.refl _) rfl (.cons (.refl _) rfl .nil))) rfl ?_
    rw [← hke]
    cases hkk : kp i
    · rw [hkk] at hst
      simp -implicitDefEqProofs [q_ref06_settle_11, e10, wi]
      refine lp_next (i + 1) ⟨by omega, by simp [e1], by simp [e2], by simp [e3], by simp [e6], by simp [e8], by simp [e9, stn, hkk], by simp, f3, f6, f8, ?_, fB⟩ (by omega)
      rw [hst]; exact fn
    · rw [hkk] at hst
      have n3 : gn ≠ g3 := z3
      simp -implicitDefEqProofs [q_ref06_settle_9, q_ref06_settle_10, q_ref06_settle_11, e3, e8, e9, e10, wi, ws, f3, f8, fn, fw, hil, wrs_getE, wrV, secs_getE, secV, hwa]
      refine lp_next (i + 1) ⟨by omega, by simp [e1], by simp [e2], by simp [e3], by simp [e6], by simp [e8], by simp [stn, hkk], by simp, ?_, ?_, ?_, ?_, ?_⟩ (by omega)
      · simp [n3, Ne.symm n3, f3, refC]
      · simp [z6, z6', f6]
      · simp [z8, z8', f8, refC]
      · rw [hst]
        have := secs_set (stl kp D.wait D.last i) D.wait[i].1 D.wait[i].2
        unfold secV at this
        simp [this]
      · exact sub_set' fB zB
  · have hie : i = D.wait.length := by omega
    subst hie
    simp -implicitDefEqProofs [q_ref06_settle_L12, q_ref06_settle_7, q_ref06_settle_12, e3, e6, e8, e9, e10, f3, f6, f8, hw.size, hw.shp, hw.agg, hw.good, hw.comps, hw.st, hwX.len, outOf]
    refine hk _ _ (sub_set' fB h6) ⟨gn, .nilS, ?_, ?_, SlR.nil (H0_sub _)⟩
    · simp [Dsk.settle]
    · rw [plus_new zB]
      simp [z6, z6', fn, Dsk.settle]
end
end Go.Proofs.Ytjbiekcldkjgjaa
