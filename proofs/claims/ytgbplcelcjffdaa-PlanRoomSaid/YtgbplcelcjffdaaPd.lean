/- The walk of the reference's Parts. -/
import Derived.Test.YtgbplcelcjffdaaPc
namespace Go.Proofs.Ytgbplcelcjffdaa
open Go AVL
set_option linter.unusedVariables false
set_option linter.unusedSimpArgs false

def rowS (l : List ByteArray) : Cont := .row T_string 1 (l.map .str)
def planC (s t c a : Nat) : Cont := .var T_api_Plan [.int .i64 s, .int .i64 t, .int .i64 c, .int .i64 a]
def five : List ByteArray := [wSuper, wSuper, wState, wMap, wClasses]
def ixM (s : Nat) : Nat := (2 * s + 5) / 6
theorem ixM_eq (s : Nat) : ixN s = (ixM s : Int) := by simp [ixN, ixM]
def partsM (s t c a : Nat) : List ByteArray :=
  five ++ List.replicate (ixM s) wIndex ++ List.replicate t wText ++ List.replicate c wClip ++ List.replicate a wAudit ++ [wHead] ++ List.replicate (ixM s + 9 + t) wBody ++ List.replicate s wSlot
def pI (gp ix : Nat) (plan : Cont) (pre : List ByteArray) (w : ByteArray) (cnt v : Nat) (p : Nat × Nat) (env : AEnv) (B : Heap) : Prop :=
  p.1 ≤ cnt ∧ ¬p.2 = gp ∧ env 1 = .ptr gp 0 ∧ env 4 = .int .i64 ix ∧ env 3 = .own p.2 0 (pre.length + p.1) ∧ env v = .int .i64 p.1 ∧ B = (H0.set gp plan).set p.2 (rowS (pre ++ List.replicate p.1 w))
theorem rep_snoc (pre : List ByteArray) (i : Nat) (w : ByteArray) : List.map AV.str pre ++ (List.replicate i (AV.str w) ++ [AV.str w]) = List.map AV.str (pre ++ List.replicate (i + 1) w) := by
  rw [List.replicate_succ']; simp
theorem row_snoc (pre : List ByteArray) (i : Nat) (w : ByteArray) : Cont.row 9 1 (List.take (pre.length + i) (List.map AV.str pre ++ List.replicate i (AV.str w)) ++ [AV.str w]) = rowS (pre ++ List.replicate (i + 1) w) := by
  rw [List.take_of_length_le (by simp), List.append_assoc, rep_snoc]; rfl
theorem row_one (pre : List ByteArray) (w : ByteArray) : Cont.row 9 1 (List.take pre.length (List.map AV.str pre) ++ [AV.str w]) = rowS (pre ++ [w]) := by rw [List.take_of_length_le (by simp)]; simp [rowS]
set_option maxRecDepth 4000 in
theorem w_ref07_Parts (s t c a : Nat) (hs : s ≤ 200) (ht : t ≤ 40) (hc : c ≤ 40) (ha : a ≤ 80) : Makes Try.prog F_ref07_Parts [planV s t c a] (partsM s t c a).length (rowS (partsM s t c a)) := by
  have hix : ixM s ≤ 100 := by simp only [ixM]; omega
  refine i_ref07_Parts (by simp) fun R hR => ?_
  simp -implicitDefEqProofs +contextual [a_ref07_Parts, q_ref07_Parts_0, q_ref07_Parts_1, planV]
  intro gp g k1 k2
  simp -implicitDefEqProofs [q_ref07_Parts_2, k1, k2]
  refine (w_ref07_Index s t c a (by omega)).call (.cons (.refl _) rfl .nil) rfl ?_
  obtain ⟨p0, hp0⟩ : ∃ p, p = five := ⟨_, rfl⟩
  have l0 : p0.length ≤ 1000 := by rw [hp0]; decide
  simp -implicitDefEqProofs [q_ref07_Parts_3, k1, k2, ixM_eq]
  refine X_lpS (pI gp (ixM s) (planC s t c a) p0 wIndex (ixM s) 5) (fun p => ixM s - p.1) (0, g) _ (Sub_refl _) ⟨by omega, k1, by simp, by simp, by simp [hp0, five], by simp, by rw [hp0]; rfl⟩ ?_
  clear k1 k2
  rintro ⟨i, g⟩ env B ⟨hi, hg, e1, e4, e3, ev, rfl⟩
  simp only at hi hg e3 ev
  have hg' : ¬gp = g := fun e => hg e.symm
  simp -implicitDefEqProofs (disch := first | omega | simp) [q_ref07_Parts_L7, q_ref07_Parts_4, e1, e3, e4, ev, wrap_i64, hg, hg', planC]
  refine ⟨fun hlt => ?_, fun hge => ?_⟩
  · simp -implicitDefEqProofs +contextual [q_ref07_Parts_5, e3, hg, hg', rowS]
    intro gx x1 x2 x3 x4
    refine ⟨by omega, fun g2 y1 y2 y3 y4 y5 y6 => ?_⟩
    rw [row_snoc]
    simp -implicitDefEqProofs (disch := first | omega | simp) [q_ref07_Parts_6, ev, wrap_i64]
    refine lp_nextS (i + 1, g2) _ (sub_set (sub_set (H0_sub _) (c := planC s t c a) (by simp [y6, x4, planC])) (g := g2) (by simp)) ⟨by simp only; omega, y5, by simp [e1], by simp [e4], by simp; omega, by simp, rfl⟩ (by simp only; omega)
  have hii : ixM s = i := by omega
  subst hii
  obtain ⟨p1, hp1⟩ : ∃ p, p = p0 ++ List.replicate (ixM s) wIndex := ⟨_, rfl⟩
  have l1 : p1.length ≤ 2000 := by rw [hp1]; simp; omega
  have lx : p0.length + (ixM s) = p1.length := by rw [hp1]; simp
  rw [lx] at e3
  rw [← hp1]
  simp -implicitDefEqProofs [q_ref07_Parts_7]
  refine X_lpS (pI gp (ixM s) (planC s t c a) p1 wText (t) 6) (fun p => (t) - p.1) (0, g) _ (Sub_refl _) ⟨by omega, hg, by simp [e1], by simp [e4], by simp [e3], by simp, by simp [rowS, planC]⟩ ?_
  rintro ⟨i, g⟩ env B ⟨hi, hg, e1, e4, e3, ev, rfl⟩
  simp only at hi hg e3 ev
  have hg' : ¬gp = g := fun e => hg e.symm
  simp -implicitDefEqProofs (disch := first | omega | simp) [q_ref07_Parts_L11, q_ref07_Parts_8, e1, e3, e4, ev, wrap_i64, hg, hg', planC]
  refine ⟨fun hlt => ?_, fun hge => ?_⟩
  · simp -implicitDefEqProofs +contextual [q_ref07_Parts_9, e3, hg, hg', rowS]
    intro gx x1 x2 x3 x4
    refine ⟨by omega, fun g2 y1 y2 y3 y4 y5 y6 => ?_⟩
    rw [row_snoc]
    simp -implicitDefEqProofs (disch := first | omega | simp) [q_ref07_Parts_10, ev, wrap_i64]
    refine lp_nextS (i + 1, g2) _ (sub_set (sub_set (H0_sub _) (c := planC s t c a) (by simp [y6, x4, planC])) (g := g2) (by simp)) ⟨by simp only; omega, y5, by simp [e1], by simp [e4], by simp; omega, by simp, rfl⟩ (by simp only; omega)
  have hii : t = i := by omega
  subst hii
  obtain ⟨p2, hp2⟩ : ∃ p, p = p1 ++ List.replicate (t) wText := ⟨_, rfl⟩
  have l2 : p2.length ≤ 3000 := by rw [hp2]; simp; omega
  have lx : p1.length + (t) = p2.length := by rw [hp2]; simp
  rw [lx] at e3
  rw [← hp2]
  simp -implicitDefEqProofs [q_ref07_Parts_11]
  refine X_lpS (pI gp (ixM s) (planC s t c a) p2 wClip (c) 7) (fun p => (c) - p.1) (0, g) _ (Sub_refl _) ⟨by omega, hg, by simp [e1], by simp [e4], by simp [e3], by simp, by simp [rowS, planC]⟩ ?_
  rintro ⟨i, g⟩ env B ⟨hi, hg, e1, e4, e3, ev, rfl⟩
  simp only at hi hg e3 ev
  have hg' : ¬gp = g := fun e => hg e.symm
  simp -implicitDefEqProofs (disch := first | omega | simp) [q_ref07_Parts_L15, q_ref07_Parts_12, e1, e3, e4, ev, wrap_i64, hg, hg', planC]
  refine ⟨fun hlt => ?_, fun hge => ?_⟩
  · simp -implicitDefEqProofs +contextual [q_ref07_Parts_13, e3, hg, hg', rowS]
    intro gx x1 x2 x3 x4
    refine ⟨by omega, fun g2 y1 y2 y3 y4 y5 y6 => ?_⟩
    rw [row_snoc]
    simp -implicitDefEqProofs (disch := first | omega | simp) [q_ref07_Parts_14, ev, wrap_i64]
    refine lp_nextS (i + 1, g2) _ (sub_set (sub_set (H0_sub _) (c := planC s t c a) (by simp [y6, x4, planC])) (g := g2) (by simp)) ⟨by simp only; omega, y5, by simp [e1], by simp [e4], by simp; omega, by simp, rfl⟩ (by simp only; omega)
  have hii : c = i := by omega
  subst hii
  obtain ⟨p3, hp3⟩ : ∃ p, p = p2 ++ List.replicate (c) wClip := ⟨_, rfl⟩
  have l3 : p3.length ≤ 4000 := by rw [hp3]; simp; omega
  have lx : p2.length + (c) = p3.length := by rw [hp3]; simp
  rw [lx] at e3
  rw [← hp3]
  simp -implicitDefEqProofs [q_ref07_Parts_15]
  refine X_lpS (pI gp (ixM s) (planC s t c a) p3 wAudit (a) 8) (fun p => (a) - p.1) (0, g) _ (Sub_refl _) ⟨by omega, hg, by simp [e1], by simp [e4], by simp [e3], by simp, by simp [rowS, planC]⟩ ?_
  rintro ⟨i, g⟩ env B ⟨hi, hg, e1, e4, e3, ev, rfl⟩
  simp only at hi hg e3 ev
  have hg' : ¬gp = g := fun e => hg e.symm
  simp -implicitDefEqProofs (disch := first | omega | simp) [q_ref07_Parts_L19, q_ref07_Parts_16, e1, e3, e4, ev, wrap_i64, hg, hg', planC]
  refine ⟨fun hlt => ?_, fun hge => ?_⟩
  · simp -implicitDefEqProofs +contextual [q_ref07_Parts_17, e3, hg, hg', rowS]
    intro gx x1 x2 x3 x4
    refine ⟨by omega, fun g2 y1 y2 y3 y4 y5 y6 => ?_⟩
    rw [row_snoc]
    simp -implicitDefEqProofs (disch := first | omega | simp) [q_ref07_Parts_18, ev, wrap_i64]
    refine lp_nextS (i + 1, g2) _ (sub_set (sub_set (H0_sub _) (c := planC s t c a) (by simp [y6, x4, planC])) (g := g2) (by simp)) ⟨by simp only; omega, y5, by simp [e1], by simp [e4], by simp; omega, by simp, rfl⟩ (by simp only; omega)
  have hii : a = i := by omega
  subst hii
  obtain ⟨p4, hp4⟩ : ∃ p, p = p3 ++ List.replicate (a) wAudit := ⟨_, rfl⟩
  have l4 : p4.length ≤ 5000 := by rw [hp4]; simp; omega
  have lx : p3.length + (a) = p4.length := by rw [hp4]; simp
  rw [lx] at e3
  rw [← hp4]
  simp -implicitDefEqProofs +contextual [q_ref07_Parts_19, e3, hg, hg', rowS]
  intro gx x1 x2 x3 x4
  refine ⟨by omega, fun g2 y1 y2 y3 y4 y5 y6 => ?_⟩
  rw [row_one]
  obtain ⟨q, hq⟩ : ∃ p, p = p4 ++ [wHead] := ⟨_, rfl⟩
  have lq : q.length ≤ 5001 := by rw [hq]; simp; omega
  have lqx : p4.length + 1 = q.length := by rw [hq]; simp
  rw [lqx, ← hq]
  simp -implicitDefEqProofs [q_ref07_Parts_20]
  refine X_lpS (pI gp (ixM s) (planC s t c a) q wBody (ixM s + 9 + t) 9) (fun p => ixM s + 9 + t - p.1) (0, g2) _ (sub_set (sub_set (H0_sub _) (g := gp) (c := planC s t c a) (by simp [y6, x4, planC])) (g := g2) (c := rowS q) (by simp)) ⟨by omega, y5, by simp [e1], by simp [e4], by simp, by simp, by simp [rowS, planC]⟩ ?_
  rintro ⟨i, g⟩ env B ⟨hi, hg, e1, e4, e3, ev, rfl⟩
  simp only at hi hg e3 ev
  have hg' : ¬gp = g := fun e => hg e.symm
  simp -implicitDefEqProofs (disch := first | omega | simp) [q_ref07_Parts_L24, q_ref07_Parts_21, e1, e3, e4, ev, wrap_i64, hg, hg', planC]
  refine ⟨fun hlt => ?_, fun hge => ?_⟩
  · simp -implicitDefEqProofs +contextual [q_ref07_Parts_22, e3, hg, hg', rowS]
    intro gx x1 x2 x3 x4
    refine ⟨by omega, fun g2 y1 y2 y3 y4 y5 y6 => ?_⟩
    rw [row_snoc]
    simp -implicitDefEqProofs (disch := first | omega | simp) [q_ref07_Parts_23, ev, wrap_i64]
    refine lp_nextS (i + 1, g2) _ (sub_set (sub_set (H0_sub _) (c := planC s t c a) (by simp [y6, x4, planC])) (g := g2) (by simp)) ⟨by simp only; omega, y5, by simp [e1], by simp [e4], by simp; omega, by simp, rfl⟩ (by simp only; omega)
  have hii : ixM s + 9 + t = i := by omega
  subst hii
  obtain ⟨p5, hp5⟩ : ∃ p, p = q ++ List.replicate (ixM s + 9 + t) wBody := ⟨_, rfl⟩
  have l5 : p5.length ≤ 6000 := by rw [hp5]; simp; omega
  have lx : q.length + (ixM s + 9 + t) = p5.length := by rw [hp5]; simp
  rw [lx] at e3
  rw [← hp5]
  simp -implicitDefEqProofs [q_ref07_Parts_24]
  refine X_lpS (pI gp (ixM s) (planC s t c a) p5 wSlot (s) 10) (fun p => (s) - p.1) (0, g) _ (Sub_refl _) ⟨by omega, hg, by simp [e1], by simp [e4], by simp [e3], by simp, by simp [rowS, planC]⟩ ?_
  rintro ⟨i, g⟩ env B ⟨hi, hg, e1, e4, e3, ev, rfl⟩
  simp only at hi hg e3 ev
  have hg' : ¬gp = g := fun e => hg e.symm
  simp -implicitDefEqProofs (disch := first | omega | simp) [q_ref07_Parts_L28, q_ref07_Parts_25, e1, e3, e4, ev, wrap_i64, hg, hg', planC]
  refine ⟨fun hlt => ?_, fun hge => ?_⟩
  · simp -implicitDefEqProofs +contextual [q_ref07_Parts_26, e3, hg, hg', rowS]
    intro gx x1 x2 x3 x4
    refine ⟨by omega, fun g2 y1 y2 y3 y4 y5 y6 => ?_⟩
    rw [row_snoc]
    simp -implicitDefEqProofs (disch := first | omega | simp) [q_ref07_Parts_27, ev, wrap_i64]
    refine lp_nextS (i + 1, g2) _ (sub_set (sub_set (H0_sub _) (c := planC s t c a) (by simp [y6, x4, planC])) (g := g2) (by simp)) ⟨by simp only; omega, y5, by simp [e1], by simp [e4], by simp; omega, by simp, rfl⟩ (by simp only; omega)
  have hii : s = i := by omega
  subst hii
  obtain ⟨p6, hp6⟩ : ∃ p, p = p5 ++ List.replicate (s) wSlot := ⟨_, rfl⟩
  have l6 : p6.length ≤ 7000 := by rw [hp6]; simp; omega
  have lx : p5.length + (s) = p6.length := by rw [hp6]; simp
  rw [lx] at e3
  rw [← hp6]
  simp -implicitDefEqProofs [q_ref07_Parts_28, e3]
  refine hR _ _ _ ?_
  simp -implicitDefEqProofs [a_ref07_Parts, fpost]
  have : p6 = partsM s t c a := by rw [hp6, hp5, hq, hp4, hp3, hp2, hp1, hp0]; rfl
  rw [← this]
  exact ⟨H0.set g (rowS p6), sub_set (H0_sub _) (by simp), g, ⟨rfl, rfl⟩, rfl⟩
end Go.Proofs.Ytgbplcelcjffdaa
