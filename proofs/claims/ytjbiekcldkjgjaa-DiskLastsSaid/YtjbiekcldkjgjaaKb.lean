/- The walks of a disk's small functions. -/
import Derived.Test.YtjbiekcldkjgjaaKa
namespace Go.Proofs.Ytjbiekcldkjgjaa
open Go AVL
attribute [-simp] AV.isAgg aappI aapp alen shp good comps
set_option linter.unusedVariables false
set_option linter.unusedSimpArgs false
set_option maxRecDepth 8000

section
variable {A B : Heap} {g gl gm : Nat} {v : AV} {D : Dsk} {K Kp : AV → Heap → Prop}
theorem w_disk_Size (h : DskAt A g D B) (hk : K (.int .i64 D.last.length) B) : SimX Try.prog F_Pdisk_Disk_Size [.ptr g 0] B (outK K Kp) := by
  obtain ⟨gl, v, gm, h⟩ := h
  refine j_Pdisk_Disk_Size (by simp) ?_
  have h1 := h.at'
  unfold dskC at h1
  have hs := h.wait.scl
  simp -implicitDefEqProofs [a_Pdisk_Disk_Size, q_Pdisk_Disk_Size_0, q_Pdisk_Disk_Size_1, h1, hs.size, hs.shp, hs.agg, hs.good, hs.comps, outOf]
  exact hk
theorem w_disk_Steps (h : DskAt A g D B) (hk : K (.int .i64 D.steps) B) : SimX Try.prog F_Pdisk_Disk_Steps [.ptr g 0] B (outK K Kp) := by
  obtain ⟨gl, v, gm, h⟩ := h
  refine j_Pdisk_Disk_Steps (by simp) ?_
  have h1 := h.at'
  unfold dskC at h1
  have hs := h.wait.scl
  simp -implicitDefEqProofs [a_Pdisk_Disk_Steps, q_Pdisk_Disk_Steps_0, q_Pdisk_Disk_Steps_1, h1, hs.size, hs.shp, hs.agg, hs.good, hs.comps, outOf]
  exact hk
theorem w_disk_Down (h : DskAt A g D B) (hk : K (.bool D.down) B) : SimX Try.prog F_Pdisk_Disk_Down [.ptr g 0] B (outK K Kp) := by
  obtain ⟨gl, v, gm, h⟩ := h
  refine j_Pdisk_Disk_Down (by simp) ?_
  have h1 := h.at'
  unfold dskC at h1
  have hs := h.wait.scl
  simp -implicitDefEqProofs [a_Pdisk_Disk_Down, q_Pdisk_Disk_Down_0, q_Pdisk_Disk_Down_1, h1, hs.size, hs.shp, hs.agg, hs.good, hs.comps, outOf]
  exact hk
theorem w_disk_Waits (h : DskAt A g D B) (hk : K (.int .i64 D.wait.length) B) : SimX Try.prog F_Pdisk_Disk_Waits [.ptr g 0] B (outK K Kp) := by
  obtain ⟨gl, v, gm, h⟩ := h
  refine j_Pdisk_Disk_Waits (by simp) ?_
  have h1 := h.at'
  unfold dskC at h1
  have hs := h.wait.scl
  simp -implicitDefEqProofs [a_Pdisk_Disk_Waits, q_Pdisk_Disk_Waits_0, q_Pdisk_Disk_Waits_1, h1, hs.size, hs.shp, hs.agg, hs.good, hs.comps, h.wait.len, outOf]
  exact hk
theorem w_disk_inside (h : DskIn A g gl v gm D B) {a : Int} (hk : K (.bool (D.inside a)) B) : SimX Try.prog F_Pdisk_Disk_inside [.ptr g 0, .int .i64 a] B (outK K Kp) := by
  refine j_Pdisk_Disk_inside (by simp) ?_
  have h1 := h.at'
  unfold dskC at h1
  have hs := h.wait.scl
  unfold Dsk.inside at hk
  by_cases h0 : 0 ≤ a
  · simp [h0] at hk
    simp -implicitDefEqProofs [a_Pdisk_Disk_inside, q_Pdisk_Disk_inside_0, q_Pdisk_Disk_inside_1, h0, h1, hs.size, hs.shp, hs.agg, hs.good, hs.comps, outOf]
    exact hk
  · simp [h0] at hk
    simp -implicitDefEqProofs [a_Pdisk_Disk_inside, q_Pdisk_Disk_inside_0, q_Pdisk_Disk_inside_1, h0, outOf]
    exact hk
theorem w_disk_Fuse (h : DskAt A g D B) {n : Int} (hn : n < 9223372036854775808) (hk : ∀ B', DskAt A g (D.setFuse n) B' → K (.tuple []) B') : SimX Try.prog F_Pdisk_Disk_Fuse [.ptr g 0, .int .i64 n] B (outK K Kp) := by
  obtain ⟨gl, v, gm, h⟩ := h
  refine j_Pdisk_Disk_Fuse (by simp) ?_
  have h1 := h.at'
  unfold dskC at h1
  have hs := h.wait.scl
  simp -implicitDefEqProofs [a_Pdisk_Disk_Fuse, q_Pdisk_Disk_Fuse_0, h1, hs.size, hs.shp, hs.agg, hs.good, hs.comps, outOf, pop]
  refine hk _ ⟨gl, v, gm, ?_⟩
  have e : (if n < -1 then -1 else n) = (if n < 0 then -1 else n) := by split <;> split <;> omega
  have := h.nums D.steps (f := if n < 0 then -1 else n) (by split <;> omega) D.down
  unfold dskC at this
  simpa [Dsk.setFuse, e] using this
/-- Whether there is power. -/
def codeOf (b : Bool) : Int := if b then 0 else 4
theorem w_disk_step (h : DskIn A g gl v gm D B) (hst : D.steps < 2 ^ 62) (hk : ∀ B', DskIn A g gl v gm D.step B' → K (.int .i64 (codeOf D.ok)) B') : SimX Try.prog F_Pdisk_Disk_step [.ptr g 0] B (outK K Kp) := by
  refine j_Pdisk_Disk_step (by simp) ?_
  have h1 := h.at'
  unfold dskC at h1
  have hs := h.wait.scl
  have hfu := h.wf.fuse
  have wst : IntKind.i64.wrap ((D.steps : Int) + 1) = (D.steps : Int) + 1 := wrap_i64 (by omega)
  by_cases hd : D.down = true
  · have hn := h.nums D.steps hfu true
    have e1 : D.ok = false := by simp [Dsk.ok, hd]
    have e2 : D.step = { D with steps := D.steps, fuse := D.fuse, down := true } := by simp [Dsk.step, hd]
    simp -implicitDefEqProofs [a_Pdisk_Disk_step, q_Pdisk_Disk_step_0, q_Pdisk_Disk_step_1, q_Pdisk_Disk_step_2, q_Pdisk_Disk_step_3, h1, hs.size, hs.shp, hs.agg, hs.good, hs.comps, outOf, hd]
    rw [e1, e2] at hk
    exact hk _ hn
  · have hd' : D.down = false := by simpa using hd
    by_cases hf : D.fuse = 0
    · have hn := h.nums D.steps hfu true
      have e1 : D.ok = false := by simp [Dsk.ok, hf]
      have e2 : D.step = { D with steps := D.steps, fuse := D.fuse, down := true } := by simp [Dsk.step, hf]
      rw [e1, e2] at hk
      have := hk _ hn
      unfold dskC at this
      rw [hf] at this h1
      simp -implicitDefEqProofs [a_Pdisk_Disk_step, q_Pdisk_Disk_step_0, q_Pdisk_Disk_step_1, q_Pdisk_Disk_step_2, q_Pdisk_Disk_step_3, h1, hs.size, hs.shp, hs.agg, hs.good, hs.comps, outOf, hd', hf]
      exact this
    · have e1 : D.ok = true := by simp [Dsk.ok, hf, hd']
      by_cases hf0 : 0 < D.fuse
      · have hn := h.nums (D.steps + 1) (f := D.fuse - 1) (by omega) false
        have e2 : D.step = { D with steps := D.steps + 1, fuse := D.fuse - 1, down := false } := by simp [Dsk.step, hf, hd', hf0]
        have wf : IntKind.i64.wrap (D.fuse - 1) = D.fuse - 1 := wrap_i64 (by omega)
        rw [e1, e2] at hk
        have := hk _ hn
        unfold dskC at this
        simp -implicitDefEqProofs [a_Pdisk_Disk_step, q_Pdisk_Disk_step_0, q_Pdisk_Disk_step_1, q_Pdisk_Disk_step_4, q_Pdisk_Disk_step_5, q_Pdisk_Disk_step_6, q_Pdisk_Disk_step_7, h1, hs.size, hs.shp, hs.agg, hs.good, hs.comps, outOf, hd', hf, hf0, wf, wst]
        simpa [codeOf] using this
      · have hn := h.nums (D.steps + 1) hfu false
        have e2 : D.step = { D with steps := D.steps + 1, fuse := D.fuse, down := false } := by simp [Dsk.step, hf, hd', hf0]
        rw [e1, e2] at hk
        have := hk _ hn
        unfold dskC at this
        simp -implicitDefEqProofs [a_Pdisk_Disk_step, q_Pdisk_Disk_step_0, q_Pdisk_Disk_step_1, q_Pdisk_Disk_step_4, q_Pdisk_Disk_step_6, q_Pdisk_Disk_step_7, h1, hs.size, hs.shp, hs.agg, hs.good, hs.comps, outOf, hd', hf, hf0, wst]
        simpa [codeOf] using this
end
end Go.Proofs.Ytjbiekcldkjgjaa
