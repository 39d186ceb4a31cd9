/- The walk of DiskDoes. -/
import Derived.Test.YtjbiekcldkjgjaaKh
namespace Go.Proofs.Ytjbiekcldkjgjaa
open Go AVL
attribute [-simp] AV.isAgg aappI aapp alen shp good comps
set_option linter.unusedVariables false
set_option linter.unusedSimpArgs false
set_option maxRecDepth 8000

def runD (D : Dsk) (l : List DOpr) : Dsk := l.foldl doD D
theorem runD_take {D : Dsk} {l : List DOpr} {i : Nat} (h : i < l.length) : runD D (l.take (i + 1)) = doD (runD D (l.take i)) l[i] := by
  unfold runD; rw [List.take_succ_eq_append_getElem h, List.foldl_append]; rfl
theorem step_grows (D : Dsk) : D.step.steps ≤ D.steps + 1 := by
  unfold Dsk.step
  split <;> simp
theorem doD_grows (D : Dsk) (o : DOpr) : (doD D o).steps ≤ D.steps + 1 ∧ (doD D o).wait.length ≤ D.wait.length + 1 := by
  have h := step_grows D
  have hw := D.step_wait
  unfold doD
  split
  · split
    · unfold Dsk.write
      split
      · simpa using h
      · rw [hw]; exact ⟨h, by omega⟩
    · exact ⟨by omega, by omega⟩
  · split
    · unfold Dsk.flush
      split
      · exact ⟨h, by simp [Dsk.settle]⟩
      · rw [hw]; exact ⟨h, by omega⟩
    · split
      · exact ⟨by simp [Dsk.crash, Dsk.settle], by simp [Dsk.crash, Dsk.settle]⟩
      · split
        · exact ⟨by simp [Dsk.setFuse], by simp [Dsk.setFuse]⟩
        · exact ⟨by omega, by omega⟩
theorem runD_grows (D : Dsk) : ∀ l : List DOpr, (runD D l).steps ≤ D.steps + l.length ∧ (runD D l).wait.length ≤ D.wait.length + l.length := by
  intro l
  induction l generalizing D with
  | nil => simp [runD]
  | cons o l ih =>
    have h1 := ih (doD D o)
    have h2 := doD_grows D o
    simp only [runD, List.foldl_cons, List.length_cons] at h1 ⊢
    omega
/-- Acts as they come in. -/
def OpsOK (l : List DOpr) : Prop := ∀ o ∈ l, o.b < 256 ∧ o.at' < 9223372036854775808 ∧ -9223372036854775808 ≤ o.at'
theorem RefIn.agg {A : Heap} {rv : AV} {D : Dsk} (h : RefIn A rv D) : ∃ gl wv, rv = .agg [.own gl 0 D.last.length, wv, .int .i64 D.steps, .int .i64 D.fuse, .bool D.down] ∧ Scl wv :=
  let ⟨gl, wv, e, _, h2⟩ := h
  ⟨gl, wv, e, h2.scl⟩
theorem w_DiskDoes {n : Int} {l : List DOpr} (ho : OpsOK l) : Gives Try.prog F_law06_DiskDoes [.int .i64 n, .dsl 4 (dops l)] (.bool true) := by
  refine v_law06_DiskDoes (by simp) ?_
  simp -implicitDefEqProofs [a_law06_DiskDoes, q_law06_DiskDoes_0, q_law06_DiskDoes_1]
  refine w_law06_light.call (.cons (.refl _) rfl .nil) rfl ?_
  cases hli : lightB l
  · simp -implicitDefEqProofs [q_law06_DiskDoes_2]
    refine w_law06_works.call .nil rfl ?_
    simp -implicitDefEqProofs [outOf]
  have hl80 : l.length ≤ 80 := by
    unfold lightB at hli
    simp only [Bool.and_eq_true, decide_eq_true_eq] at hli
    exact hli.1
  by_cases hn40 : 40 < n
  · simp -implicitDefEqProofs [hn40, q_law06_DiskDoes_2]
    refine w_law06_works.call .nil rfl ?_
    simp -implicitDefEqProofs [outOf]
  simp -implicitDefEqProofs [hn40, q_law06_DiskDoes_3]
  by_cases hn : 1 ≤ n ∧ n ≤ 4096
  · refine w_disk_New (fun h => absurd hn h) fun _ d B0 h0 => ?_
    simp -implicitDefEqProofs [q_law06_DiskDoes_4]
    refine w_ref06_New (fun h => absurd hn h) fun _ gr hgr hr => ?_
    have h1 := h0.rebase (c := .row T_256_uint8 256 (secs (Dsk.fresh n.toNat).last)) hgr
    have hr1 : RefIn (H0.set gr (.row T_256_uint8 256 (secs (Dsk.fresh n.toNat).last))) (.agg (refC gr n.toNat .nilS (Dsk.fresh n.toNat))) (Dsk.fresh n.toNat) := ⟨gr, .nilS, by simp [refC, Dsk.fresh], by simp, SlR.nil (H0_sub _)⟩
    obtain ⟨D0, hD0⟩ : ∃ x, Dsk.fresh n.toNat = x := ⟨_, rfl⟩
    have hd0 : D0.steps = 0 ∧ D0.wait.length = 0 := by rw [← hD0]; exact ⟨rfl, rfl⟩
    rw [hD0] at h1 hr1 ⊢
    obtain ⟨A0, hA0⟩ : ∃ X, H0.set gr (.row T_256_uint8 256 (secs D0.last)) = X := ⟨_, rfl⟩
    obtain ⟨B1, hB1⟩ : ∃ X, B0.set gr (.row T_256_uint8 256 (secs D0.last)) = X := ⟨_, rfl⟩
    rw [hA0] at h1 hr1
    rw [hB1] at h1 ⊢
    simp -implicitDefEqProofs [refC]
    intro g7 h7
    simp -implicitDefEqProofs [q_law06_DiskDoes_5, pop, nilOf, q_law06_DiskDoes_7]
    have h7A := sub_noneL h1.sub h7
    refine X_lp (fun (i : Nat) env B => i ≤ l.length ∧ env 0 = .int .i64 n ∧ env 1 = .dsl 4 (dops l) ∧ env 5 = .ptr d 0 ∧ env 7 = .ptr g7 0 ∧ env 8 = .int .i64 0 ∧ env 9 = .int .i64 i ∧
        ∃ A rl, DskAt A d (runD D0 (l.take i)) B ∧ RefIn A (.agg rl) (runD D0 (l.take i)) ∧ A g7 = some (.var 67 rl)) (fun i => l.length - i) 0
      ⟨by omega, by simp, by simp, by simp, by simp, by simp, by simp, _, _, h1.rebase h7, hr1.mono (sub_none h7A), set_eq'⟩ ?_
    clear h0 hr hr1 h1 hA0 hB1
    rintro i env B ⟨hi, e0, e1, e5, e7, e8, e9, A, rl, hd, hr, a7⟩
    have hgr := runD_grows D0 (l.take i)
    rw [List.length_take, Nat.min_eq_left hi] at hgr
    by_cases hil : i < l.length
    · have hil' : (i : Int) < l.length := by omega
      have wi : IntKind.i64.wrap ((i : Int) + 1) = (i : Int) + 1 := wrap_i64 (by omega)
      have ho' := ho _ (List.getElem_mem hil)
      obtain ⟨gl, wv, e, hw⟩ := hr.agg
      injection e with e; subst e
      have b7 := hd.sub _ _ a7
      simp -implicitDefEqProofs [q_law06_DiskDoes_L14, q_law06_DiskDoes_8, q_law06_DiskDoes_9, q_law06_DiskDoes_10, e0, e1, e5, e7, e8, e9, hil, hil', b7, dops_getE, dopV, hw.size, hw.shp, hw.agg, hw.good, hw.comps, hw.st]
      refine w_law06_do (o := l[i]) hd hr (by omega) (by omega) ho'.1 ho'.2.1 fun A' rv' B' hAA hd' hr' => ?_
      rw [← runD_take hil] at hd' hr'
      obtain ⟨gl', wv', rfl, hw'⟩ := hr'.agg
      have c7 := hd'.sub _ _ (hAA _ _ a7)
      simp -implicitDefEqProofs [e7, c7, hw.size, hw.shp, hw.agg, hw.good, hw.comps, hw.st, hw'.size, hw'.shp, hw'.agg, hw'.good, hw'.comps, hw'.st]
      have hd2 := hd'.poke (c := .var 67 [.own gl' 0 (runD D0 (l.take (i + 1))).last.length, wv', .int .i64 (runD D0 (l.take (i + 1))).steps, .int .i64 (runD D0 (l.take (i + 1))).fuse, .bool (runD D0 (l.take (i + 1))).down]) (hAA _ _ a7)
      have hr2 := hr'.poke (c := .var 67 [.own gl' 0 (runD D0 (l.take (i + 1))).last.length, wv', .int .i64 (runD D0 (l.take (i + 1))).steps, .int .i64 (runD D0 (l.take (i + 1))).fuse, .bool (runD D0 (l.take (i + 1))).down]) (hAA _ _ a7)
      have hgr2 := runD_grows D0 (l.take (i + 1))
      rw [List.length_take, Nat.min_eq_left hil] at hgr2
      simp -implicitDefEqProofs [q_law06_DiskDoes_11, e5, e7, hw'.size, hw'.shp, hw'.agg, hw'.good, hw'.comps, hw'.st]
      refine w_law06_same hd2 hr2 (by omega) fun B3 h3 => ?_
      simp -implicitDefEqProofs [q_law06_DiskDoes_13, e9, wi]
      exact lp_next (i + 1) ⟨by omega, by simp [e0], by simp [e1], by simp [e5], by simp [e7], by simp [e8], by simp, _, hd2.mono h3, _, hr2, set_eq'⟩ (by omega)
    · have hie : i = l.length := by omega
      subst hie
      simp -implicitDefEqProofs [q_law06_DiskDoes_L14, q_law06_DiskDoes_8, q_law06_DiskDoes_14, e0, e1, e5, e7, e8, e9]
      refine w_law06_works.call .nil rfl ?_
      simp -implicitDefEqProofs [outOf]
  · refine w_disk_New (fun _ => ?_) fun h => absurd h hn
    simp -implicitDefEqProofs [q_law06_DiskDoes_4]
    refine w_ref06_New (fun _ => ?_) fun h => absurd h hn
    simp -implicitDefEqProofs [q_law06_DiskDoes_5, pop, nilOf, q_law06_DiskDoes_7]
    intro g7
    refine X_lp (fun (_ : Unit) env B => env 1 = .dsl 4 (dops l) ∧ env 8 = .int .i64 2 ∧ env 9 = .int .i64 0) (fun _ => 0) () ⟨by simp, by simp, by simp⟩ ?_
    rintro _ env B ⟨e1, e8, e9⟩
    by_cases hp : 0 < l.length
    · have hp' : (0 : Int) < l.length := by omega
      simp -implicitDefEqProofs [q_law06_DiskDoes_L14, q_law06_DiskDoes_8, q_law06_DiskDoes_14, hp, hp', e1, e8, e9]
      refine w_law06_works.call .nil rfl ?_
      simp -implicitDefEqProofs [outOf]
    · have hp' : ¬ (0 : Int) < l.length := by omega
      simp -implicitDefEqProofs [q_law06_DiskDoes_L14, q_law06_DiskDoes_8, q_law06_DiskDoes_14, hp, hp', e1, e8, e9]
      refine w_law06_works.call .nil rfl ?_
      simp -implicitDefEqProofs [outOf]
end Go.Proofs.Ytjbiekcldkjgjaa
