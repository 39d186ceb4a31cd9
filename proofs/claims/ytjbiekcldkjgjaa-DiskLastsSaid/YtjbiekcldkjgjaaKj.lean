/- The walk of DiskTwins. -/
import Derived.Test.YtjbiekcldkjgjaaKi
namespace Go.Proofs.Ytjbiekcldkjgjaa
open Go AVL
attribute [-simp] AV.isAgg aappI aapp alen shp good comps
set_option linter.unusedVariables false
set_option linter.unusedSimpArgs false
set_option maxRecDepth 8000

theorem light_len {l : List DOpr} (h : lightB l = true) : l.length ≤ 80 := by
  unfold lightB at h
  simp only [Bool.and_eq_true, decide_eq_true_eq] at h
  exact h.1
/-- A disk d and the reference's, in cell c, over a base that holds B0. -/
def BothAt (B0 : Heap) (d c : Nat) (D : Dsk) (B : Heap) : Prop := ∃ A rl, B0.Sub A ∧ DskAt A d D B ∧ RefIn A (.agg rl) D ∧ A c = some (.var T_ref06_Disk rl)
theorem w_DiskTwins {l m : List DOpr} (ho : OpsOK l) (hom : OpsOK m) : Gives Try.prog F_law06_DiskTwins [.dsl 4 (dops l), .dsl 4 (dops m)] (.bool true) := by
  refine v_law06_DiskTwins (by simp) ?_
  simp -implicitDefEqProofs [a_law06_DiskTwins, q_law06_DiskTwins_0, q_law06_DiskTwins_1]
  refine w_law06_light.call (.cons (.refl _) rfl .nil) rfl ?_
  cases hli : lightB l
  · simp -implicitDefEqProofs [q_law06_DiskTwins_2]
    refine w_law06_works.call .nil rfl ?_
    simp -implicitDefEqProofs [outOf]
  simp -implicitDefEqProofs
  refine w_law06_light.call (.cons (.refl _) rfl .nil) rfl ?_
  cases hmi : lightB m
  · simp -implicitDefEqProofs [q_law06_DiskTwins_2]
    refine w_law06_works.call .nil rfl ?_
    simp -implicitDefEqProofs [outOf]
  have hl80 := light_len hli
  have hm80 := light_len hmi
  simp -implicitDefEqProofs [q_law06_DiskTwins_3]
  refine w_disk_New (fun h => absurd (by decide) h) fun _ d B0 h0 => ?_
  simp -implicitDefEqProofs [q_law06_DiskTwins_4]
  refine w_ref06_New (fun h => absurd (by decide) h) fun _ gr hgr hr => ?_
  rw [show Int.toNat 8 = 8 from rfl] at h0 hr ⊢
  have h1 := h0.rebase (c := .row T_256_uint8 256 (secs (Dsk.fresh 8).last)) hgr
  have hr1 : RefIn (H0.set gr (.row T_256_uint8 256 (secs (Dsk.fresh 8).last))) (.agg (refC gr 8 .nilS (Dsk.fresh 8))) (Dsk.fresh 8) := ⟨gr, .nilS, by simp [refC, Dsk.fresh], by simp, SlR.nil (H0_sub _)⟩
  obtain ⟨D0, hD0⟩ : ∃ x, Dsk.fresh 8 = x := ⟨_, rfl⟩
  have hd0 : D0.steps = 0 ∧ D0.wait.length = 0 := by rw [← hD0]; exact ⟨rfl, rfl⟩
  rw [hD0] at h1 hr1 ⊢
  obtain ⟨A0, hA0⟩ : ∃ X, H0.set gr (.row T_256_uint8 256 (secs D0.last)) = X := ⟨_, rfl⟩
  obtain ⟨B1, hB1⟩ : ∃ X, B0.set gr (.row T_256_uint8 256 (secs D0.last)) = X := ⟨_, rfl⟩
  rw [hA0] at h1 hr1
  rw [hB1] at h1 ⊢
  simp -implicitDefEqProofs [refC]
  intro g7 h7
  simp -implicitDefEqProofs [q_law06_DiskTwins_5, pop, nilOf, q_law06_DiskTwins_7, q_law06_DiskTwins_8]
  have h7A := sub_noneL h1.sub h7
  refine X_lp (fun (i : Nat) env B => i ≤ l.length ∧ env 0 = .dsl 4 (dops l) ∧ env 1 = .dsl 4 (dops m) ∧ env 5 = .ptr d 0 ∧ env 7 = .ptr g7 0 ∧ env 9 = .bool true ∧ env 10 = .int .i64 i ∧
      BothAt H0 d g7 (runD D0 (l.take i)) B) (fun i => l.length - i) 0
    ⟨by omega, by simp, by simp, by simp, by simp, by simp, by simp, _, _, H0_sub _, h1.rebase h7, hr1.mono (sub_none h7A), set_eq'⟩ ?_
  clear h0 hr hr1 h1 hA0 hB1
  rintro i env B ⟨hi, e0, e1, e5, e7, e9, e10, A, rl, hA0, hd, hr, a7⟩
  have hgr := runD_grows D0 (l.take i)
  rw [List.length_take, Nat.min_eq_left hi] at hgr
  by_cases hil : i < l.length
  · have hil' : (i : Int) < l.length := by omega
    have wi : IntKind.i64.wrap ((i : Int) + 1) = (i : Int) + 1 := wrap_i64 (by omega)
    have ho' := ho _ (List.getElem_mem hil)
    obtain ⟨gl, wv, e, hw⟩ := hr.agg
    injection e with e; subst e
    have b7 := hd.sub _ _ a7
    simp -implicitDefEqProofs [q_law06_DiskTwins_L12, q_law06_DiskTwins_9, q_law06_DiskTwins_10, e0, e1, e5, e7, e9, e10, hil, hil', b7, dops_getE, dopV, hw.size, hw.shp, hw.agg, hw.good, hw.comps, hw.st]
    refine w_law06_do (o := l[i]) hd hr (by omega) (by omega) ho'.1 ho'.2.1 fun A' rv' B' hAA hd' hr' => ?_
    rw [← runD_take hil] at hd' hr'
    obtain ⟨gl', wv', rfl, hw'⟩ := hr'.agg
    have c7 := hd'.sub _ _ (hAA _ _ a7)
    simp -implicitDefEqProofs [e7, c7, hw.size, hw.shp, hw.agg, hw.good, hw.comps, hw.st, hw'.size, hw'.shp, hw'.agg, hw'.good, hw'.comps, hw'.st, q_law06_DiskTwins_11, e10, wi]
    have hd2 := hd'.poke (c := .var 67 [.own gl' 0 (runD D0 (l.take (i + 1))).last.length, wv', .int .i64 (runD D0 (l.take (i + 1))).steps, .int .i64 (runD D0 (l.take (i + 1))).fuse, .bool (runD D0 (l.take (i + 1))).down]) (hAA _ _ a7)
    have hr2 := hr'.poke (c := .var 67 [.own gl' 0 (runD D0 (l.take (i + 1))).last.length, wv', .int .i64 (runD D0 (l.take (i + 1))).steps, .int .i64 (runD D0 (l.take (i + 1))).fuse, .bool (runD D0 (l.take (i + 1))).down]) (hAA _ _ a7)
    exact lp_next (i + 1) ⟨by omega, by simp [e0], by simp [e1], by simp [e5], by simp [e7], by simp, by simp, _, _, H0_sub _, hd2, hr2, set_eq'⟩ (by omega)
  · have hie : i = l.length := by omega
    subst hie
    rw [List.take_length] at hd hr
    obtain ⟨D1, hD1⟩ : ∃ x, runD D0 l = x := ⟨_, rfl⟩
    rw [List.take_length, hD1] at hgr
    rw [hD1] at hd hr
    obtain ⟨gl, wv, e, hw⟩ := hr.agg
    injection e with e; subst e
    simp -implicitDefEqProofs [q_law06_DiskTwins_L12, q_law06_DiskTwins_9, q_law06_DiskTwins_12, e0, e1, e5, e7, e9, e10]
    refine w_disk_Twin hd (by omega) fun t B2 ht => ?_
    have b7 := hd.sub _ _ a7
    have c7 := ht.sub _ _ b7
    simp -implicitDefEqProofs [q_law06_DiskTwins_13, e9, pop, nilOf, e7, c7, hw.size, hw.shp, hw.agg, hw.good, hw.comps, hw.st]
    refine w_law06_same ht (hr.mono hd.sub) (by omega) fun B3 h3 => ?_
    have d7 := h3 _ _ c7
    simp -implicitDefEqProofs [q_law06_DiskTwins_15, q_law06_DiskTwins_16, e7, d7, hw.size, hw.shp, hw.agg, hw.good, hw.comps, hw.st]
    intro g12 h12
    have ht3 := (ht.mono h3).rebase (c := .var 67 [.own gl 0 D1.last.length, wv, .int .i64 D1.steps, .int .i64 D1.fuse, .bool D1.down]) h12
    have hB12 := sub_noneL (ht.mono h3).sub h12
    have hBB := sub_none (c := .var 67 [.own gl 0 D1.last.length, wv, .int .i64 D1.steps, .int .i64 D1.fuse, .bool D1.down]) hB12
    refine X_lp (fun (i : Nat) env X => i ≤ m.length ∧ env 1 = .dsl 4 (dops m) ∧ env 5 = .ptr d 0 ∧ env 7 = .ptr g7 0 ∧ env 9 = .bool true ∧ env 11 = .ptr t 0 ∧ env 12 = .ptr g12 0 ∧ env 13 = .int .i64 i ∧
        BothAt B t g12 (runD D1 (m.take i)) X) (fun i => m.length - i) 0
      ⟨by omega, by simp [e1], by simp [e5], by simp [e7], by simp [e9], by simp, by simp, by simp, _, _, hBB, ht3, hr.mono (sub_tr hd.sub hBB), set_eq'⟩ ?_
    clear ht ht3 c7 d7 h3 e0 e1 e5 e7 e9 e10 hBB
    rintro i env X ⟨hi, e1, e5, e7, e9, e11, e12, e13, A2, ql, hBA, htt, hq, a12⟩
    have hgr2 := runD_grows D1 (m.take i)
    rw [List.length_take, Nat.min_eq_left hi] at hgr2
    by_cases hil : i < m.length
    · have hil' : (i : Int) < m.length := by omega
      have wi : IntKind.i64.wrap ((i : Int) + 1) = (i : Int) + 1 := wrap_i64 (by omega)
      have ho' := hom _ (List.getElem_mem hil)
      obtain ⟨gl2, wv2, e, hw2⟩ := hq.agg
      injection e with e; subst e
      have b12 := htt.sub _ _ a12
      simp -implicitDefEqProofs [q_law06_DiskTwins_L20, q_law06_DiskTwins_17, q_law06_DiskTwins_18, e1, e5, e7, e9, e11, e12, e13, hil, hil', b12, dops_getE, dopV, hw2.size, hw2.shp, hw2.agg, hw2.good, hw2.comps, hw2.st]
      refine w_law06_do (o := m[i]) htt hq (by omega) (by omega) ho'.1 ho'.2.1 fun A' rv' B' hAA hd' hr' => ?_
      rw [← runD_take hil] at hd' hr'
      obtain ⟨gl', wv', rfl, hw'⟩ := hr'.agg
      have c12 := hd'.sub _ _ (hAA _ _ a12)
      simp -implicitDefEqProofs [e12, c12, hw2.size, hw2.shp, hw2.agg, hw2.good, hw2.comps, hw2.st, hw'.size, hw'.shp, hw'.agg, hw'.good, hw'.comps, hw'.st, q_law06_DiskTwins_19, e13, wi]
      have hd2 := hd'.poke (c := .var 67 [.own gl' 0 (runD D1 (m.take (i + 1))).last.length, wv', .int .i64 (runD D1 (m.take (i + 1))).steps, .int .i64 (runD D1 (m.take (i + 1))).fuse, .bool (runD D1 (m.take (i + 1))).down]) (hAA _ _ a12)
      have hr2 := hr'.poke (c := .var 67 [.own gl' 0 (runD D1 (m.take (i + 1))).last.length, wv', .int .i64 (runD D1 (m.take (i + 1))).steps, .int .i64 (runD D1 (m.take (i + 1))).fuse, .bool (runD D1 (m.take (i + 1))).down]) (hAA _ _ a12)
      exact lp_next (i + 1) ⟨by omega, by simp [e1], by simp [e5], by simp [e7], by simp, by simp [e11], by simp [e12], by simp, _, _, sub_set' (sub_tr hBA hAA) hB12, hd2, hr2, set_eq'⟩ (by omega)
    · have hie : i = m.length := by omega
      subst hie
      rw [List.take_length] at htt hq hgr2
      obtain ⟨gl2, wv2, e, hw2⟩ := hq.agg
      injection e with e; subst e
      have hdX := hd.mono (sub_tr hBA htt.sub)
      have f7 := hdX.sub _ _ a7
      simp -implicitDefEqProofs [q_law06_DiskTwins_L20, q_law06_DiskTwins_17, q_law06_DiskTwins_20, e1, e5, e7, e9, e11, e12, e13, f7, hw.size, hw.shp, hw.agg, hw.good, hw.comps, hw.st]
      refine w_law06_same hdX hr (by omega) fun B4 h4 => ?_
      have f12 := h4 _ _ (htt.sub _ _ a12)
      simp -implicitDefEqProofs [e11, e12, f12, hw2.size, hw2.shp, hw2.agg, hw2.good, hw2.comps, hw2.st]
      refine w_law06_same (htt.mono h4) hq (by omega) fun B5 h5 => ?_
      simp -implicitDefEqProofs
      refine w_law06_works.call .nil rfl ?_
      simp -implicitDefEqProofs [outOf]
end Go.Proofs.Ytjbiekcldkjgjaa
