/- The operations that make, read and write variables. -/
import Derived.Test.YtfdckjliinpjiaaVd
namespace AVL
open Go
set_option linter.unusedSimpArgs false
set_option linter.unusedVariables false

theorem shp_comps {E : Emb} {sh : Sh} {l : List AV} {v : AV} {cs : List Value} (h : VRs E l cs) (hs : shp sh l = some v) : VRs E (comps v) cs := by
  unfold shp at hs
  split at hs
  · rename_i v'
    have h0 := h
    simp only [VRs] at h
    obtain ⟨c1, c2, rfl, h1, rfl⟩ := h
    split at hs
    · split at hs
      · rename_i e; subst e
        injection hs with hs; subst hs
        simp only [VR] at h1
        simpa [comps, VRs, VR] using h1
      · cases hs
    · cases hs
    · injection hs with hs; subst hs
      rename_i ha hb
      have : comps v' = [v'] := by cases v' <;> first | rfl | (exact absurd rfl (hb _))
      rw [this]; exact h0
  · cases hs
  · injection hs with hs; subst hs; exact h
  · rename_i k n l
    split at hs
    · rename_i k' n' x
      split at hs
      · rename_i e; obtain ⟨rfl, rfl⟩ := e
        injection hs with hs; subst hs
        exact h
      · cases hs
    · split at hs
      · rename_i x hx
        split at hs
        · rename_i e; subst e
          injection hs with hs; subst hs
          have := intsQ_ok _ _ _ h hx
          subst this
          simp only [comps, VRs, VR]
          refine ⟨_, [], (List.append_nil _).symm, ?_, rfl⟩
          apply List.ext_getElem?
          intro j
          simp only [List.getElem?_map]
          by_cases hj : j < x.length
          · simp [hj, List.getD_eq_getElem?_getD]
          · rw [List.getElem?_eq_none (by omega), List.getElem?_eq_none (by simpa using hj)]; rfl
        · cases hs
      · cases hs

theorem getC_ok {E : Emb} {l : List AV} {off sz : Nat} {sh : Sh} {v : AV} {cs : List Value} {c : Value} (h : VRs E l cs) (hg : getC l off sz sh = some v)
    (hc : ShV sh ((cs.drop off).take sz) c) : TV E v c := by
  unfold getC at hg
  split at hg
  · rename_i r hr
    obtain ⟨h1, _⟩ := dropC_ok l off cs r h hr
    split at hg
    · rename_i x hx
      obtain ⟨h2, _⟩ := takeC_ok r sz _ x h1 hx
      exact shp_ok h2 hg hc
    · cases hg
  · cases hg
theorem getC_len {E : Emb} {l : List AV} {off sz : Nat} {sh : Sh} {v : AV} {cs : List Value} (h : VRs E l cs) (hg : getC l off sz sh = some v) : off + sz ≤ cs.length := by
  unfold getC at hg
  split at hg
  · rename_i r hr
    obtain ⟨h1, h1'⟩ := dropC_ok l off cs r h hr
    split at hg
    · rename_i x hx
      obtain ⟨h2, h2'⟩ := takeC_ok r sz _ x h1 hx
      simp at h2'; omega
    · cases hg
  · cases hg
theorem getC_VR {E : Emb} {l : List AV} {off sz : Nat} {sh : Sh} {v : AV} {cs : List Value} (h : VRs E l cs) (hg : getC l off sz sh = some v) :
    VRs E (comps v) ((cs.drop off).take sz) := by
  unfold getC at hg
  split at hg
  · rename_i r hr
    obtain ⟨h1, _⟩ := dropC_ok l off cs r h hr
    split at hg
    · rename_i x hx
      obtain ⟨h2, _⟩ := takeC_ok r sz _ x h1 hx
      exact shp_comps h2 hg
    · cases hg
  · cases hg
theorem comps_VR {E : Emb} {v : AV} {cs : List Value} (h : VRs E (comps v) cs) : VR E v cs := by
  cases v
  case agg l => simp only [VR]; exact h
  all_goals
    simp only [comps, VRs] at h
    obtain ⟨c1, c2, rfl, h1, rfl⟩ := h
    simpa using h1
theorem VR_comps {E : Emb} {v : AV} {cs : List Value} (h : VR E v cs) : VRs E (comps v) cs := by
  cases v
  case agg l => simp only [VR] at h; exact h
  all_goals exact ⟨cs, [], (List.append_nil _).symm, h, rfl⟩

/-- The int array that stands at a place of a variable. -/
def getI (l : List AV) (o m : Nat) : Option (IntKind × List Int) :=
  match dropC l o with
  | some (.iarr k n xs :: _) => if n = m then some (k, xs) else none
  | _ => none
theorem getI_ok {E : Emb} {l : List AV} {o m : Nat} {k : IntKind} {xs : List Int} {cs : List Value} (h : VRs E l cs) (hg : getI l o m = some (k, xs)) :
    o + m ≤ cs.length ∧ ∀ i, i < m → cs[o + i]? = some (.int k (xs.getD i 0)) := by
  unfold getI at hg
  split at hg
  · rename_i k' n xs' r hd
    split at hg
    · rename_i e; subst e
      injection hg with hg; injection hg with h1 h2; subst h1; subst h2
      obtain ⟨h1, hle⟩ := dropC_ok l o cs _ h hd
      simp only [VRs, VR] at h1
      obtain ⟨c1, c2, he, h2, h3⟩ := h1
      have hlen := congrArg List.length he
      subst h2
      simp at hlen
      refine ⟨by omega, fun i hi => ?_⟩
      rw [← List.getElem?_drop, he, List.getElem?_append_left (by simpa using hi)]
      simp [hi]
    · cases hg
  · cases hg

theorem range_get {α : Type} {f : Nat → α} {n j : Nat} {x : α} (h : ((List.range n).map f)[j]? = some x) : j < n ∧ f j = x := by
  rw [List.getElem?_map] at h
  by_cases hj : j < n
  · rw [List.getElem?_range hj] at h; simp at h; exact ⟨hj, h⟩
  · rw [List.getElem?_eq_none (by simpa using hj)] at h; simp at h

section
variable {P : Program} {w : World} {E : Emb} {A : Heap} {K : AV → Heap → Prop}

/-- Reading. -/
def aload (sh : Sh) (sz : Nat) (p : AV) (A : Heap) (K : AV → Heap → Prop) : Prop :=
  match p with
  | .ptr g o => match A g with
    | some (.var _ l) => match getC l o sz sh with
      | some v => K v A
      | none => False
    | _ => False
  | .pix g o m i => match A g with
    | some (.var _ l) => match getI l o m with
      | some (k, xs) => match sh with
        | .sc => K (.int k (xs.getD i 0)) A
        | .ia k' n => k' = k ∧ n = sz ∧ xs.length = m ∧ i + n ≤ m ∧ K (.iarr k n ((xs.drop i).take n)) A
        | .ag => False
      | none => False
    | _ => False
  | .pel g i o => match A g with
    | some (.irow _ k l) => match sh with
        | .sc => i < l.length ∧ o = 0 ∧ K (.int k (l.getD i 0)) A
        | .ia k' n => k' = k ∧ n = sz ∧ o = 0 ∧ i + n ≤ l.length ∧ K (.iarr k n ((l.drop i).take n)) A
        | .ag => False
    | some (.row _ _ l) => ∃ h : i < l.length, match getC (comps l[i]) o sz sh with
      | some v => K v A
      | none => False
    | _ => False
  | .pval v => match getC (comps v) 0 sz sh with
    | some v => K v A
    | none => False
  | _ => False

theorem cell_at {b off : Nat} {C : Array Value} {t : TypeId} (hb : w.heap[b]? = some (.cells C t (0, 0))) : w.cell? (pA b off) = C[off]? := by
  simp [World.cell?, pA, hb]
theorem frm_cell (hR : Rep E A w) {b off : Nat} {v : Value} (h : E.cell b off = some v) : w.cell? (pA b off) = some v := by
  unfold Emb.cell at h
  cases hf : E.F b with
  | none => rw [hf] at h; simp at h
  | some o =>
    have := hR.frm b o hf
    rw [hf] at h
    simp only [World.cell?, pA, this]
    cases o <;> simp_all

theorem map_take_drop (k : IntKind) (l : List Int) (i n : Nat) (h : i + n ≤ l.length) :
    (List.range n).map (fun j => Value.int k (((l.drop i).take n).getD j 0)) = (List.range n).map (fun j => Value.int k (l.getD (i + j) 0)) := by
  apply List.map_congr_left
  intro j hj
  simp at hj
  simp [List.getD_eq_getElem?_getD, List.getElem?_take, hj]

theorem load_run {t : TypeId} {sh : Sh} {sz : Nat} {p : AV} {c : Value} (hR : Rep E A w) (hs : shOf P t = some (sh, sz)) (hp : TV E p c) (h : aload sh sz p A K) :
    ∃ a v d, c = .pointer (some a) ∧ (loadVar t a).run P w = .ok d w ∧ TV E v d ∧ K v A := by
  have h1 := (shOf_run (w := w) hs).2.2
  have main : ∀ (b off : Nat) (cs : List Value) (v : AV), c = .pointer (some (pA b off)) → cs.length = sz → (∀ j x, cs[j]? = some x → w.cell? (pA b (off + j)) = some x) →
      K v A → (∀ d, ShV sh cs d → TV E v d) → ∃ a v d, c = .pointer (some a) ∧ (loadVar t a).run P w = .ok d w ∧ TV E v d ∧ K v A := by
    intro b off cs v hc hl hcell hk hv
    obtain ⟨d, hrun, hd⟩ := run_loadVar (w := w) hs hl hcell
    exact ⟨_, v, d, hc, hrun, hv d hd, hk⟩
  unfold aload at h
  split at h
  · rename_i g o
    obtain ⟨hg, b, off, ha, rfl⟩ := TV_ptr.1 hp
    split at h
    · rename_i t' l hA
      split at h
      · rename_i v hget
        obtain ⟨b', cs, ha', hF, hb, hv⟩ := hR.cont g _ hA
        rw [ha] at ha'; injection ha' with ha'; injection ha' with e1 e2; subst e1; subst e2
        have hlen := getC_len hv hget
        refine main b (0 + o) ((cs.drop o).take sz) v rfl (by simp; omega) (fun j x hx => ?_) h (fun d hd => getC_ok hv hget hd)
        rw [cell_at hb]
        rw [List.getElem?_take] at hx
        split at hx
        · rw [List.getElem?_drop] at hx
          rw [← hx]; simp
        · cases hx
      · exact h.elim
    · exact h.elim
  · rename_i g o m i
    obtain ⟨hg, him, b, off, ha, rfl⟩ := TV_pix.1 hp
    split at h
    · rename_i t' l hA
      split at h
      · rename_i k xs hget
        obtain ⟨b', cs, ha', hF, hb, hv⟩ := hR.cont g _ hA
        rw [ha] at ha'; injection ha' with ha'; injection ha' with e1 e2; subst e1; subst e2
        obtain ⟨hle, hcs⟩ := getI_ok hv hget
        split at h
        · refine main b (0 + o + i) [.int k (xs.getD i 0)] _ rfl (h1 rfl).symm (fun j x hx => ?_) h (fun d hd => by simp only [ShV] at hd; injection hd with hd; subst hd; exact TV_int.2 rfl)
          cases j with
          | zero =>
            simp at hx; subst hx
            rw [cell_at hb]
            have := hcs i him
            simpa using this
          | succ j => simp at hx
        · rename_i k' n
          obtain ⟨rfl, rfl, hxl, hin, hk⟩ := h
          refine main b (0 + o + i) ((List.range n).map (fun j => Value.int k' (xs.getD (i + j) 0))) _ rfl (by simp) (fun j x hx => ?_) hk (fun d hd => ?_)
          · rw [cell_at hb]
            obtain ⟨hj, rfl⟩ := range_get hx
            have := hcs (i + j) (by omega)
            rw [← Nat.add_assoc] at this
            simpa using this
          · simp only [ShV] at hd; subst hd
            rw [TV_iarr, map_take_drop k' xs i n (by omega)]
        · exact h.elim
      · exact h.elim
    · exact h.elim
  · rename_i g i o
    obtain ⟨hg, b, off, ha, rfl⟩ := TV_pel.1 hp
    split at h
    · rename_i t' k l hA
      obtain ⟨hsz, hroom, hrow⟩ := hR.cont g _ hA
      obtain ⟨hn, _⟩ | ⟨b', off', C, ha', hF, hb, hC, hcs⟩ := hrow
      · rw [hn] at ha; cases ha
      rw [ha] at ha'; injection ha' with ha'; injection ha' with e1 e2; subst e1; subst e2
      rw [hsz] at main ⊢
      split at h
      · obtain ⟨hi, rfl, hk⟩ := h
        refine main b (off + i * 1 + 0) [.int k (l.getD i 0)] _ rfl (h1 rfl).symm (fun j x hx => ?_) hk (fun d hd => by simp only [ShV] at hd; injection hd with hd; subst hd; exact TV_int.2 rfl)
        cases j with
        | zero =>
          simp at hx; subst hx
          rw [cell_at hb]
          have := hcs i hi
          simpa using this
        | succ j => simp at hx
      · rename_i k' n
        obtain ⟨rfl, rfl, rfl, hin, hk⟩ := h
        refine main b (off + i * 1 + 0) ((List.range n).map (fun j => Value.int k' (l.getD (i + j) 0))) _ rfl (by simp) (fun j x hx => ?_) hk (fun d hd => ?_)
        · rw [cell_at hb]
          obtain ⟨hj, rfl⟩ := range_get hx
          have := hcs (i + j) (by omega)
          rw [← Nat.add_assoc] at this
          simpa using this
        · simp only [ShV] at hd; subst hd
          rw [TV_iarr, map_take_drop k' l i n (by omega)]
      · exact h.elim
    · rename_i t' sz' l hA
      obtain ⟨hsz, hroom, hrow⟩ := hR.cont g _ hA
      obtain ⟨hn, _⟩ | ⟨b', off', C, ha', hF, hb, hC, hcs⟩ := hrow
      · rw [hn] at ha; cases ha
      rw [ha] at ha'; injection ha' with ha'; injection ha' with e1 e2; subst e1; subst e2
      rw [hsz] at main ⊢
      obtain ⟨hi, h⟩ := h
      split at h
      · rename_i v hget
        obtain ⟨cs, hl, hcell, hv⟩ := hcs i l[i] (List.getElem?_eq_getElem hi)
        have hlen := getC_len (VR_comps hv) hget
        refine main b (off + i * sz' + o) ((cs.drop o).take sz) v rfl (by simp; omega) (fun j x hx => ?_) h (fun d hd => getC_ok (VR_comps hv) hget hd)
        rw [cell_at hb]
        rw [List.getElem?_take] at hx
        split at hx
        · rw [List.getElem?_drop] at hx
          rw [← hx]
          have := (List.getElem?_eq_some_iff.1 hx).1
          rw [← hcell (o + j) (by omega)]
          congr 1; omega
        · cases hx
      · exact h.elim
    · exact h.elim
  · rename_i v
    obtain ⟨b, off, xs, rfl, hl, hcell, hv⟩ := TV_pval.1 hp
    split at h
    · rename_i v' hget
      have hlen := getC_len (VR_comps hv) hget
      refine main b off ((xs.drop 0).take sz) v' rfl (by simp; omega) (fun j x hx => ?_) h (fun d hd => getC_ok (VR_comps hv) hget hd)
      rw [List.getElem?_take] at hx
      split at hx
      · rw [List.getElem?_drop, Nat.zero_add] at hx
        have := (List.getElem?_eq_some_iff.1 hx).1
        exact frm_cell hR (by rw [hcell j (by omega)]; exact hx)
      · cases hx
    · exact h.elim
  · exact h.elim
theorem load_ok {t : TypeId} {sh : Sh} {sz : Nat} {p : AV} {c : Value} (hR : Rep E A w) (hs : shOf P t = some (sh, sz)) (hp : TV E p c) (h : aload sh sz p A K) :
    ResV E A w K ((do pure (Next.value (← Instr.loadAt t c)) : Sem Next).run P w) := by
  obtain ⟨a, v, d, rfl, hrun, hv, hk⟩ := load_run hR hs hp h
  simp only [Instr.loadAt, Instr.sureAddr, Sem.run_bind, Sem.run_pure, Result.andThen_ok, hrun]
  exact Res.val hR hk hv
end
end AVL
