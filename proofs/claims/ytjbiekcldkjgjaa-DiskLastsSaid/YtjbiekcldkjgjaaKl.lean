/- DiskLasts, plainly: what was seen of each sector since the last flush. -/
import Derived.Test.YtjbiekcldkjgjaaKj
namespace Go.Proofs.Ytjbiekcldkjgjaa
open Go AVL
attribute [-simp] AV.isAgg aappI aapp alen shp good comps
set_option linter.unusedVariables false
set_option linter.unusedSimpArgs false
set_option maxRecDepth 8000

/-- What was written there, of those that wait. -/
def wrote (w : List (Nat × List Nat)) (k : Nat) : List (List Nat) := (w.filter fun p => p.1 == k).map fun p => p.2
theorem wrote_snoc (w : List (Nat × List Nat)) (p : Nat × List Nat) (k : Nat) : wrote (w ++ [p]) k = if p.1 = k then wrote w k ++ [p.2] else wrote w k := by
  unfold wrote
  by_cases h : p.1 = k
  · simp [List.filter_append, h]
  · simp [List.filter_append, h]
theorem wrote_take {w : List (Nat × List Nat)} {i : Nat} (h : i < w.length) (k : Nat) : wrote (w.take (i + 1)) k = if w[i].1 = k then wrote (w.take i) k ++ [w[i].2] else wrote (w.take i) k := by
  rw [List.take_succ_eq_append_getElem h, wrote_snoc]
theorem wrote_len (w : List (Nat × List Nat)) (k : Nat) : (wrote w k).length ≤ w.length := by
  unfold wrote
  rw [List.length_map]
  exact List.length_filter_le _ _
/-- What lasts behind a crash was there, or written. -/
theorem stl_mem (keep : Nat → Bool) (w : List (Nat × List Nat)) (L : List (List Nat)) (k : Nat) (hk : k < L.length) : ∀ i, i ≤ w.length → ∃ s, (stl keep w L i)[k]? = some s ∧ s ∈ L[k] :: wrote (w.take i) k
  | 0, _ => ⟨L[k], by simp [stl, hk], by simp⟩
  | i + 1, hi => by
    have hil : i < w.length := by omega
    obtain ⟨s, h1, h2⟩ := stl_mem keep w L k hk i (by omega)
    rw [stl_succ hil, wrote_take hil]
    by_cases he : w[i].1 = k
    · rw [if_pos he]
      cases hkp : keep i
      · refine ⟨s, by simpa using h1, ?_⟩
        rcases List.mem_cons.1 h2 with h | h
        · simp [h]
        · simp [h]
      · refine ⟨w[i].2, ?_, by simp⟩
        simp only [if_true]
        rw [List.getElem?_set, if_pos he, if_pos (by simpa [he] using hk)]
    · rw [if_neg he]
      refine ⟨s, ?_, h2⟩
      cases hkp : keep i
      · simpa using h1
      · simp only [if_true]
        rw [List.getElem?_set, if_neg he]; exact h1
/-- What lasts behind a flush was written last. -/
theorem stl_last (w : List (Nat × List Nat)) (L : List (List Nat)) (k : Nat) (hk : k < L.length) : ∀ i, i ≤ w.length → (stl (fun _ => true) w L i)[k]? = (L[k] :: wrote (w.take i) k).getLast?
  | 0, _ => by simp [stl, wrote, hk]
  | i + 1, hi => by
    have hil : i < w.length := by omega
    have ih := stl_last w L k hk i (by omega)
    rw [stl_succ hil, wrote_take hil]
    simp only [if_true]
    by_cases he : w[i].1 = k
    · rw [if_pos he, List.getElem?_set, if_pos he, if_pos (by simpa [he] using hk)]
      rw [← List.cons_append, List.getLast?_concat]
    · rw [if_neg he, List.getElem?_set, if_neg he]; exact ih
/-- What was seen of each of the six sectors. -/
structure SeenOK (D : Dsk) (S : Nat → List (List Nat)) : Prop where
  six : D.last.length = 6
  up : D.fuse = -1 ∧ D.down = false
  is : ∀ k (h : k < D.last.length), S k = D.last[k] :: wrote D.wait k
theorem SeenOK.ok {D : Dsk} {S : Nat → List (List Nat)} (h : SeenOK D S) : D.ok = true := by simp [Dsk.ok, h.up.1, h.up.2]
theorem SeenOK.len {D : Dsk} {S : Nat → List (List Nat)} (h : SeenOK D S) {k : Nat} (hk : k < 6) : (S k).length ≤ D.wait.length + 1 ∧ 0 < (S k).length := by
  rw [h.is k (by rw [h.six]; exact hk)]
  have := wrote_len D.wait k
  simp only [List.length_cons]; omega
theorem SeenOK.sec {D : Dsk} {S : Nat → List (List Nat)} (h : SeenOK D S) (hw : D.Wf) {k : Nat} (hk : k < 6) : ∀ t ∈ S k, Sec t := by
  have hk' : k < D.last.length := by rw [h.six]; exact hk
  rw [h.is k hk']
  intro t ht
  rcases List.mem_cons.1 ht with rfl | ht
  · exact hw.last _ (List.getElem_mem hk')
  · unfold wrote at ht
    obtain ⟨p, hp, rfl⟩ := List.mem_map.1 ht
    exact (hw.wait p (List.mem_filter.1 hp).1).2
theorem SeenOK.step {D : Dsk} {S : Nat → List (List Nat)} (h : SeenOK D S) : D.step = { D with steps := D.steps + 1 } := by
  have := h.up.1
  simp [Dsk.step, h.up.1, h.up.2]
theorem SeenOK.write {D : Dsk} {S : Nat → List (List Nat)} (h : SeenOK D S) (a : Nat) (s : List Nat) : SeenOK (D.write a s) (fun k => if k = a then S k ++ [s] else S k) := by
  have e : D.write a s = { D with steps := D.steps + 1, wait := D.wait ++ [(a, s)] } := by unfold Dsk.write; rw [if_pos h.ok, h.step]
  rw [e]
  refine ⟨h.six, h.up, fun k hk => ?_⟩
  have := h.is k hk
  simp only [wrote_snoc]
  by_cases hka : k = a
  · subst hka; simp [this]
  · simp [hka, this, Ne.symm hka]
def lastOf (l : List (List Nat)) : List (List Nat) := l.drop (l.length - 1)
theorem lastOf_eq {l : List (List Nat)} {s : List Nat} (h : l.getLast? = some s) : lastOf l = [s] := by
  have hne : l ≠ [] := by rintro rfl; simp at h
  have hl : 0 < l.length := List.length_pos_iff.2 hne
  rw [List.getLast?_eq_getElem?, List.getElem?_eq_some_iff] at h
  obtain ⟨h1, h2⟩ := h
  unfold lastOf
  rw [List.drop_eq_getElem_cons h1, h2, List.drop_of_length_le (by omega)]
theorem SeenOK.flush {D : Dsk} {S : Nat → List (List Nat)} (h : SeenOK D S) : SeenOK D.flush (fun k => lastOf (S k)) := by
  have e : D.flush = { D with steps := D.steps + 1, last := stl (fun _ => true) D.wait D.last D.wait.length, wait := [] } := by unfold Dsk.flush; rw [if_pos h.ok, h.step]; rfl
  rw [e]
  refine ⟨by simpa using h.six, h.up, fun k hk => ?_⟩
  have hk' : k < D.last.length := by simpa using hk
  have h1 := stl_last D.wait D.last k hk' D.wait.length (Nat.le_refl _)
  rw [List.take_length, ← h.is k hk', List.getElem?_eq_getElem hk] at h1
  show lastOf (S k) = [_]
  exact lastOf_eq h1.symm
theorem SeenOK.crash {D : Dsk} {S : Nat → List (List Nat)} (h : SeenOK D S) (keep : List Bool) (k : Nat) (hk : k < 6) : ∃ s, (D.crash keep).last[k]? = some s ∧ s ∈ S k := by
  have hk' : k < D.last.length := by rw [h.six]; exact hk
  have := stl_mem (keeps keep) D.wait D.last k hk' D.wait.length (Nat.le_refl _)
  rw [List.take_length, ← h.is k hk'] at this
  exact this
end Go.Proofs.Ytjbiekcldkjgjaa
