/- append of whole numbers; make; slice literals; parts of slices; lengths; addresses of elements. -/
import Derived.Test.YtfdckjliinpjiaaVi
namespace AVL
open Go
set_option linter.unusedSimpArgs false
set_option linter.unusedVariables false

section
variable {P : Program} {w : World} {E : Emb} {A : Heap} {K : AV → Heap → Prop}

theorem Res.mono {K' : AV → Heap → Prop} {r : Result Next} (h : Res E w K r) (hk : ∀ v A', K v A' → K' v A') : Res E w K' r := by
  obtain ⟨v, A', E', w', h1, h2⟩ := h
  exact ⟨v, A', E', w', hk _ _ h1, h2⟩
/-- Where a new row is one of whole numbers. -/
theorem Res.irow {k : IntKind} {e : TypeId} {r : Result Next}
    (h : Res E w (fun v A' => ∃ X g l, A' = Heap.set X g (.row e 1 (l.map (AV.int k))) ∧ K v (Heap.set X g (.irow e k l))) r) : Res E w K r := by
  obtain ⟨v, A', E', w', ⟨X, g, l, rfl, hk⟩, hR, h⟩ := h
  exact ⟨v, _, E', w', hk, hR.irow, h⟩

theorem Rep.torow {g : Nat} {e : TypeId} {k : IntKind} {l : List Int} (h : Rep E A w) (hA : A g = some (.irow e k l)) : Rep E (A.set g (.row e 1 (l.map (AV.int k)))) w := by
  refine ⟨h.frm, fun g' c hg => ?_, fun g' c hg => ?_, fun g1 g2 c1 c2 h1 h2 hne => ?_, fun g' c hg => ?_, h.lon, fun b o hb => ⟨(h.hid b o hb).1, (h.hid b o hb).2.1, fun g' c hg => ?_⟩⟩
  · simp only [Heap.set] at hg
    split at hg
    · rename_i e; subst e; exact h.lt _ _ hA
    · exact h.lt g' c hg
  · simp only [Heap.set] at hg
    split at hg
    · rename_i e; subst e; injection hg with hg; subst hg; exact irow_row.1 (h.cont _ _ hA)
    · exact h.cont g' c hg
  · have key : ∀ g' c, (A.set g (.row e 1 (l.map (AV.int k)))) g' = some c → ∃ y, A g' = some y := fun g' c hx => by
      simp only [Heap.set] at hx
      split at hx
      · rename_i e; subst e; exact ⟨_, hA⟩
      · exact ⟨_, hx⟩
    obtain ⟨y1, k1⟩ := key _ _ h1
    obtain ⟨y2, k2⟩ := key _ _ h2
    exact h.sep _ _ _ _ k1 k2 hne
  · simp only [Heap.set] at hg
    split at hg
    · rename_i e; subst e; exact h.low _ _ hA
    · exact h.low g' c hg
  · simp only [Heap.set] at hg
    split at hg
    · rename_i e; subst e; exact (h.hid b o hb).2.2 _ _ hA
    · exact (h.hid b o hb).2.2 g' c hg
theorem srcG_torow {g : Nat} {e : TypeId} {k : IntKind} {l : List Int} (hA : A g = some (.irow e k l)) {s : AV} {Q : List AV → Prop} (h : srcG 1 s A Q) : srcG 1 s (A.set g (.row e 1 (l.map (AV.int k)))) Q := by
  unfold srcG at h ⊢
  split at h <;> try exact h
  · rename_i g' i n
    by_cases hg : g' = g
    · subst hg
      rw [Heap.set_same]
      rw [hA] at h
      obtain ⟨_, h1, h2⟩ := h
      exact ⟨rfl, by simpa using h1, by simpa [List.map_take, List.map_drop] using h2⟩
    · rw [Heap.set_ne _ _ hg]; exact h
  · rename_i g' o m i n
    by_cases hg : g' = g
    · subst hg
      rw [hA] at h; exact h.elim
    · rw [Heap.set_ne _ _ hg]; exact h
theorem Heap.del_set (A : Heap) (g : Nat) (c : Cont) : (A.set g c).del g = A.del g := by
  funext x; simp only [Heap.del, Heap.set]; split <;> simp_all
theorem sts_ints (k : IntKind) : ∀ (l : List Int), AV.sts (l.map (AV.int k)) = true
  | [] => rfl
  | n :: r => by simp [AV.sts, AV.st, sts_ints k r]

theorem srcG_ex {sz : Nat} {s : AV} {Q : List AV → Prop} (h : srcG sz s A Q) : ∃ vs, Q vs ∧ srcG sz s A fun x => x = vs := by
  unfold srcG at h
  split at h
  · exact ⟨_, h, by simp [srcG]⟩
  · exact ⟨_, h.2, by simp [srcG, h.1]⟩
  · exact ⟨_, h.2, by simp [srcG, h.1]⟩
  · exact ⟨_, h.2, by simp [srcG, h.1]⟩
  · split at h
    · rename_i hA; exact ⟨_, h.2.2, by simp [srcG, hA, h.1, h.2.1]⟩
    · rename_i hA; exact ⟨_, h.2.2, by simp [srcG, hA, h.1, h.2.1]⟩
    · exact h.elim
  · split at h
    · rename_i hA
      split at h
      · rename_i hg; exact ⟨_, h.2.2, by simp [srcG, hA, hg, h.1, h.2.1]⟩
      · exact h.elim
    · exact h.elim
  · exact h.elim
theorem srcG_mono {sz : Nat} {s : AV} {Q Q' : List AV → Prop} (h : srcG sz s A Q) (hq : ∀ l, Q l → Q' l) : srcG sz s A Q' := by
  unfold srcG at h
  split at h
  · exact hq _ h
  · exact ⟨h.1, hq _ h.2⟩
  · exact ⟨h.1, hq _ h.2⟩
  · exact ⟨h.1, hq _ h.2⟩
  · split at h
    · rename_i hA; simp only [srcG, hA]; exact ⟨h.1, h.2.1, hq _ h.2.2⟩
    · rename_i hA; simp only [srcG, hA]; exact ⟨h.1, h.2.1, hq _ h.2.2⟩
    · exact h.elim
  · split at h
    · rename_i hA
      split at h
      · rename_i hg; simp only [srcG, hA, hg]; exact ⟨h.1, h.2.1, hq _ h.2.2⟩
      · exact h.elim
    · exact h.elim
  · exact h.elim
theorem srcI_ex {k : IntKind} {s : AV} {Q : List Int → Prop} (h : srcI k s A Q) : ∃ ys, Q ys ∧ srcG 1 s A fun x => x = ys.map (AV.int k) := by
  obtain ⟨vs, ⟨ys, rfl, hq⟩, h2⟩ := srcG_ex (srcI_G h)
  exact ⟨ys, hq, h2⟩

theorem appI_ok {t tx ty e : TypeId} {i : TypeInfo} {z : Value} {k : IntKind} (hR : Rep E A w) (ht : P.underlying t = some (.slice e)) (hx : srcT P tx = true) (hi : P.info? e = some i) (hz : i.zero = some z) (hzs : z.cells.size = i.size)
    (h1 : i.size = 1) (hby : 0 < i.bytes) {d s : AV} {c c' : Value} (hd : TV E d c) (hs : TV E s c') (h : aappI e k i.bytes d s A K) :
    Res E w K ((do pure (Next.value (← Builtin.append_ #[t, tx] ty #[c, c'])) : Sem Next).run P w) := by
  obtain ⟨ys, h2, hG⟩ := srcI_ex h
  clear h
  have h := h2
  clear h2
  split at h
  · obtain ⟨hb, hk⟩ := h
    refine Res.irow (e := e) (k := k) (app_ok hR ht hx hi hz hzs hby hd hs ?_)
    rw [h1]
    refine srcG_mono hG ?_
    rintro _ rfl
    exact ⟨sts_ints k ys, by simpa using hb, fun g hg => ⟨A, g, ys, rfl, by simpa using hk g hg⟩⟩
  · rename_i g ii n
    split at h
    · rename_i e' k' l hA
      obtain ⟨rfl, rfl, hin, hb, hk⟩ := h
      refine Res.irow (e := e') (k := k') (app_ok (hR.torow hA) ht hx hi hz hzs hby hd hs ?_)
      rw [h1]
      refine srcG_mono (srcG_torow hA hG) ?_
      rintro _ rfl
      refine ⟨sts_ints _ ys, ?_⟩
      simp only [Heap.set_same]
      refine ⟨trivial, trivial, by simpa using hin, by simpa using hb, fun g' hg' => ?_⟩
      rw [Heap.del_set]
      have hg0 : A g' = none := by
        by_cases e : g' = g
        · subst e; rw [Heap.set_same] at hg'; cases hg'
        · rwa [Heap.set_ne _ _ e] at hg'
      refine ⟨A.del g, g', (l.drop ii).take n ++ ys, by simp [List.map_take, List.map_drop], by simpa using hk g' hg0⟩
    · exact h.elim
  · rename_i g o m ii n
    split at h
    · rename_i t' l hA
      split at h
      · rename_i k' xs hget
        obtain ⟨rfl, hxl, hin, hpos, hb, hk⟩ := h
        obtain ⟨ys', cs, rfl, hr⟩ := srcG_ok (P := P) hR hs (show srcG i.size s A _ by rw [h1]; exact hG)
        have hsrc : srcG 1 (.asl g o m ii n) A fun x => x = ((xs.drop ii).take n).map (AV.int k') := by simp [srcG, hA, hget, hxl]
        obtain ⟨os, olds, rfl, ho⟩ := srcG_ok (P := P) hR hd hsrc
        obtain ⟨hg, him, a, rfl, hloc⟩ := TV_asl.1 hd
        have hol := VRe_len ho.cells
        have hl := VRe_len hr.cells
        have hlen : ((xs.drop ii).take n).length = n := by simp; omega
        simp only [List.length_map, hlen, Nat.mul_one] at hol
        simp only [List.length_map, h1, Nat.mul_one] at hl
        have hfo := ho.first w.drew n rfl (by simp; omega)
        rw [Nat.mul_one, ← hol, List.take_length, hol] at hfo
        have h63 : n + (ys.map (AV.int k')).length ≤ 9223372036854775807 := by
          have : (n + ys.length) * 1 ≤ (n + ys.length) * i.bytes := Nat.mul_le_mul_left _ hby
          simp; omega
        have hrun := app_grow (base := a) (sLen := n) (sCap := m - ii) (ty := ty) ht hx hi hz (olds := olds) (by rw [h1]; exact hfo) hr (by simp; omega) (by simpa using hb) h63
        have hge := grownCap_ge w (n + (ys.map (AV.int k')).length) (m - ii) e
        simp only [List.length_map] at hrun hge
        simp only [Sem.run_bind, hrun, Result.andThen_ok, Sem.run_pure]
        have hcells : VRe E 1 (((xs.drop ii).take n ++ ys).map (AV.int k')) (olds ++ cs) := by
          rw [List.map_append]; exact VRe_append ho.cells (by have := hr.cells; rwa [h1] at this)
        obtain ⟨hR2, hT⟩ := new_row hR (e := e) hcells (w1 := w.drew) rfl (C := olds.toArray ++ cs.toArray ++ Builtin.zeroCells z.cells (grownCap w (n + ys.length) (m - ii) e - (n + ys.length)))
          (cap := grownCap w (n + ys.length) (m - ii) e) (by simp at hlen ⊢; omega) (by
            simp only [Array.size_append, List.size_toArray, size_zeroCells, hzs, h1, hol, hl]
            omega) (fun j hj => by
            rw [Array.getElem?_append_left (by simpa using hj)]
            simp)
        have hlen2 : (((xs.drop ii).take n ++ ys).map (AV.int k')).length = n + ys.length := by simp at hlen ⊢; omega
        rw [hlen2] at hT
        exact ⟨_, _, _, _, hk _ hR.fresh, hR2.irow, E.push_le _, ⟨rfl, rfl, by show w.heap.size ≤ (w.heap.push _).size; simp⟩, .inl ⟨_, rfl, hT⟩⟩
      · exact h.elim
    · exact h.elim
  · exact h.elim
end
end AVL
