/- A call that is given what its caller owns, to look at alone. -/
import Derived.Test.YtfdckjliinpjiaaVp
namespace AVL
open Go
set_option linter.unusedSimpArgs false
set_option linter.unusedVariables false

mutual
inductive Vw (A : Heap) : AV → AV → Prop
  | refl (v : AV) : Vw A v v
  | nil (k : IntKind) : Vw A .nilS (.isl k [])
  | nilD (sz : Nat) : Vw A .nilS (.dsl sz [])
  | own {g i n : Nat} {t : TypeId} {k : IntKind} {l : List Int} : A g = some (.irow t k l) → i + n ≤ l.length → Vw A (.own g i n) (.isl k ((l.drop i).take n))
  | ownS {g i n : Nat} {t : TypeId} {k : IntKind} {l : List Int} : A g = some (.srow t k l) → i + n ≤ l.length → Vw A (.own g i n) (.isl k ((l.drop i).take n))
  | ownR {g i n : Nat} {t : TypeId} {sz : Nat} {l l' : List AV} : A g = some (.row t sz l) → i + n ≤ l.length → Vws A ((l.drop i).take n) l' → Vw A (.own g i n) (.dsl sz l')
  | asl {g o m i n : Nat} {t : TypeId} {l : List AV} {k : IntKind} {xs : List Int} : A g = some (.var t l) → getI l o m = some (k, xs) → xs.length = m → Vw A (.asl g o m i n) (.isl k ((xs.drop i).take n))
  | ptr {g : Nat} {t : TypeId} {l l' : List AV} : A g = some (.var t l) → Vws A l l' → Vw A (.ptr g 0) (.pval (.agg l'))
  | agg {l l' : List AV} : Vws A l l' → Vw A (.agg l) (.agg l')
inductive Vws (A : Heap) : List AV → List AV → Prop
  | nil : Vws A [] []
  | cons {v v' : AV} {l l' : List AV} : Vw A v v' → Vws A l l' → Vws A (v :: l) (v' :: l')
end

mutual
/-- Nothing in it leads to memory that stays as it is. -/
def AV.noF : AV → Bool
  | .agg l => AV.noFs l
  | .isl .. => false
  | .dsl .. => false
  | .pval _ => false
  | .func _ a b => AV.noFs a && AV.noFs b
  | .iface _ v => AV.noF v
  | .tuple l => AV.noFs l
  | _ => true
def AV.noFs : List AV → Bool
  | [] => true
  | v :: r => AV.noF v && AV.noFs r
end
def Cont.noF : Cont → Bool
  | .var _ l => AV.noFs l
  | .irow .. => true
  | .row _ _ l => AV.noFs l
  | .mp _ l => AV.noFs (l.map fun p => p.2)
  | .srow .. => true
def Heap.join (A B : Heap) : Heap := fun g => match A g with
  | some c => some c
  | none => B g

/-- What is seen when the whole world is held. -/
def Emb.all (E : Emb) (w : World) : Emb := { loc := E.loc, N := E.N, F := fun b => w.heap[b]?, lo := E.N }

section
variable {P : Program} {w : World} {E : Emb} {A : Heap}

theorem all_le (hR : Rep E A w) : E.Le0 (E.all w) := ⟨Nat.le_refl _, fun _ _ => rfl, hR.frm⟩
theorem all_rep : Rep (E.all w) (fun _ => none) w :=
  ⟨fun _ _ h => h, fun _ _ h => (by cases h), fun _ _ h => (by cases h), fun _ _ _ _ h => (by cases h), fun _ _ h => (by cases h), Nat.le_refl _, fun _ _ h => (by cases h)⟩

mutual
theorem vw_ok (hR : Rep E A w) : ∀ {v v' : AV} {cs : List Value}, Vw A v v' → VR E v cs → VR (E.all w) v' cs
  | _, _, cs, .refl v, h => VR_mono0 (all_le hR) v cs h
  | _, _, cs, .nil k, h => by simp only [VR] at h ⊢; exact ⟨none, 0, h, Nat.le_refl _, fun h => by simp at h⟩
  | _, _, cs, .nilD k, h => by simp only [VR] at h ⊢; exact ⟨none, 0, h, Nat.le_refl _, fun h => by simp at h⟩
  | _, _, cs, .agg hl, h => by unfold VR at h ⊢; exact vws_ok hR hl h
  | _, _, cs, .ownS (g := g) (i := i) (n := n) (k := k) (l := l) hA hin, h => by
    simp only [VR] at h ⊢
    obtain ⟨hg, a, cap, rfl, hcap, hroom, hloc⟩ := h
    obtain ⟨hsz, b, C, m, ha, hF, hb, hcs⟩ := hR.cont g _ hA
    have hl : ((l.drop i).take n).length = n := by simp; omega
    refine ⟨a, cap, by rw [hl], by omega, fun hp => ?_⟩
    rw [hl] at hp
    rcases hloc with h0 | ⟨b', off', ha', rfl⟩
    · exfalso; omega
    · rw [ha] at ha'; injection ha' with ha'; injection ha' with e1 e2; subst e1; subst e2
      rw [hsz, Nat.mul_one]
      refine ⟨b, 0 + i, rfl, fun j hj => ?_⟩
      rw [hl] at hj
      have := hcs (i + j) (by omega)
      simp only [Emb.cell, Emb.all, hb]
      rw [Nat.zero_add, this]
      simp [List.getElem?_take, hj, List.getElem?_drop]
  | _, _, cs, .own (g := g) (i := i) (n := n) (k := k) (l := l) hA hin, h => by
    simp only [VR] at h ⊢
    obtain ⟨hg, a, cap, rfl, hcap, hroom, hloc⟩ := h
    obtain ⟨hsz, hlr, hcs⟩ := hR.cont g _ hA
    have hl : ((l.drop i).take n).length = n := by simp; omega
    refine ⟨a, cap, by rw [hl], by omega, fun hp => ?_⟩
    rw [hl] at hp
    rcases hcs with ⟨hn0, hr0⟩ | ⟨b, off, C, ha, hF, hb, hC, hcs⟩
    · exfalso; omega
    · rcases hloc with h0 | ⟨b', off', ha', rfl⟩
      · exfalso; omega
      · rw [ha] at ha'; injection ha' with ha'; injection ha' with e1 e2; subst e1; subst e2
        rw [hsz, Nat.mul_one]
        refine ⟨b, off + i, rfl, fun j hj => ?_⟩
        rw [hl] at hj
        have := hcs (i + j) (by omega)
        simp only [Emb.cell, Emb.all, hb]
        rw [Nat.add_assoc, this]
        simp [List.getElem?_take, hj, List.getElem?_drop]
  | _, _, cs, .ownR (g := g) (i := i) (n := n) (sz := sz) (l := l) (l' := l') hA hin hv, h => by
    simp only [VR] at h ⊢
    obtain ⟨hg, a, cap, rfl, hcap, hroom, hloc⟩ := h
    obtain ⟨hsz, hlr, hcs⟩ := hR.cont g _ hA
    have hl : ((l.drop i).take n).length = n := by simp; omega
    have hl' : l'.length = n := by rw [← vws_len hv, hl]
    refine ⟨a, cap, by rw [hl'], by omega, fun hp => ?_⟩
    rw [hl'] at hp
    rcases hcs with ⟨hn0, hr0⟩ | ⟨b, off, C, ha, hF, hb, hC, hcs⟩
    · exfalso; omega
    · rcases hloc with h0 | ⟨b', off', ha', rfl⟩
      · exfalso; omega
      · rw [ha] at ha'; injection ha' with ha'; injection ha' with e1 e2; subst e1; subst e2
        rw [hsz]
        refine ⟨b, off + i * sz, rfl, ?_⟩
        refine vws_row hR hv hb (fun j v hj => ?_)
        rw [List.getElem?_take] at hj
        split at hj
        · rw [List.getElem?_drop] at hj
          obtain ⟨cs, h1, h2, h3⟩ := hcs (i + j) v hj
          refine ⟨cs, h1, fun x hx => ?_, h3⟩
          rw [← h2 x hx]; congr 1; rw [Nat.add_mul]; omega
        · cases hj
  | _, _, cs, .asl (g := g) (o := o) (m := m) (i := i) (n := n) (l := l) (k := k) (xs := xs) hA hg hm, h => by
    simp only [VR] at h ⊢
    obtain ⟨hgN, him, a, rfl, hloc⟩ := h
    obtain ⟨b, ds, ha, hF, hb, hv⟩ := hR.cont g _ hA
    have hl : ((xs.drop i).take n).length = n := by simp; omega
    refine ⟨a, m - i, by rw [hl], by omega, fun hp => ?_⟩
    rw [hl] at hp
    rcases hloc with h0 | ⟨b', off', ha', rfl⟩
    · exfalso; omega
    · rw [ha] at ha'; injection ha' with ha'; injection ha' with e1 e2; subst e1; subst e2
      refine ⟨b, 0 + o + i, rfl, fun j hj => ?_⟩
      rw [hl] at hj
      obtain ⟨hle, hcs⟩ := getI_ok hv hg
      simp only [Emb.cell, Emb.all, hb]
      have := hcs (i + j) (by omega)
      rw [Nat.zero_add, Nat.add_assoc, List.getElem?_toArray, this]
      simp [List.getElem?_take, hj, List.getElem?_drop]
  | _, _, cs, .ptr (g := g) (l := l) hA hv, h => by
    simp only [VR] at h ⊢
    obtain ⟨hgN, b, off, ha, rfl⟩ := h
    obtain ⟨b', ds, ha', hF, hb, hds⟩ := hR.cont g _ hA
    rw [ha] at ha'; injection ha' with ha'; injection ha' with e1 e2; subst e1; subst e2
    have := vws_ok hR hv hds
    refine ⟨b, 0, ds, rfl, VRs_len _ _ this, fun j hj => ?_, this⟩
    simp [Emb.cell, Emb.all, hb]
theorem vws_ok (hR : Rep E A w) : ∀ {l l' : List AV} {cs : List Value}, Vws A l l' → VRs E l cs → VRs (E.all w) l' cs
  | _, _, cs, .nil, h => by simpa only [VRs] using h
  | _, _, cs, .cons h1 h2, h => by
    simp only [VRs] at h ⊢
    obtain ⟨c1, c2, e, h3, h4⟩ := h
    exact ⟨c1, c2, e, vw_ok hR h1 h3, vws_ok hR h2 h4⟩
theorem vws_row (hR : Rep E A w) : ∀ {l l' : List AV}, Vws A l l' → ∀ {b sz off : Nat} {C : Array Value} {t : TypeId}, w.heap[b]? = some (.cells C t (0, 0)) → (∀ j v, l[j]? = some v → ∃ cs : List Value, cs.length = sz ∧ (∀ x, x < sz → C[off + j * sz + x]? = cs[x]?) ∧ VR E v cs) → SR (E.all w) b sz off l'
  | _, _, .nil, b, sz, off, C, t, hb, h => by simp only [SR]
  | v0 :: _, _, .cons h1 h2, b, sz, off, C, t, hb, h => by
    simp only [SR]
    obtain ⟨cs, h3, h4, h5⟩ := h 0 v0 (by simp)
    refine ⟨⟨cs, h3, fun j hj => ?_, vw_ok hR h1 h5⟩, vws_row hR h2 hb fun j v hj => ?_⟩
    · simp only [Emb.cell, Emb.all, hb]
      have := h4 j hj
      simpa using this
    · obtain ⟨cs, h3, h4, h5⟩ := h (j + 1) v (by simpa using hj)
      refine ⟨cs, h3, fun x hx => ?_, h5⟩
      rw [← h4 x hx]; congr 1; rw [Nat.add_mul]; omega
theorem vws_len : ∀ {l l' : List AV}, Vws A l l' → l.length = l'.length
  | _, _, .nil => rfl
  | _, _, .cons _ h => by simp [vws_len h]
end

/-! ### the way back -/
/-- What is known of the blocks that a call has made, told of its caller's names. -/
def Emb.back (E E1 : Emb) (w : World) : Emb := { loc := E1.loc, N := E1.N, F := fun b => if b < w.heap.size then E.F b else E1.F b, lo := E.lo, H := E.H }

mutual
theorem VR_back {E1 : Emb} : ∀ (v : AV) (cs : List Value), v.noF = true → VR E1 v cs → VR (E.back E1 w) v cs
  | .agg l, cs, hn, h => by unfold VR at h ⊢; exact VRs_back l cs (by simpa only [AV.noF] using hn) h
  | .undef, cs, hn, h => by simpa only [VR] using h
  | .int .., cs, hn, h => by simpa only [VR] using h
  | .bool .., cs, hn, h => by simpa only [VR] using h
  | .str .., cs, hn, h => by simpa only [VR] using h
  | .iarr .., cs, hn, h => by simpa only [VR] using h
  | .nilS, cs, hn, h => by simpa only [VR] using h
  | .isl .., cs, hn, h => by simp [AV.noF] at hn
  | .dsl .., cs, hn, h => by simp [AV.noF] at hn
  | .own .., cs, hn, h => by simp only [VR] at h ⊢; exact h
  | .asl .., cs, hn, h => by simp only [VR] at h ⊢; exact h
  | .ptr .., cs, hn, h => by simp only [VR] at h ⊢; exact h
  | .pix .., cs, hn, h => by simp only [VR] at h ⊢; exact h
  | .pel .., cs, hn, h => by simp only [VR] at h ⊢; exact h
  | .map .., cs, hn, h => by simp only [VR] at h ⊢; exact h
  | .pval v, cs, hn, h => by simp [AV.noF] at hn
  | .nilP, cs, hn, h => by simpa only [VR] using h
  | .func _ a b, cs, hn, h => by
    simp only [AV.noF, Bool.and_eq_true] at hn
    simp only [VR] at h ⊢
    obtain ⟨xs, ys, e, h1, h2⟩ := h
    exact ⟨xs, ys, e, TVl_back a _ hn.1 h1, TVl_back b _ hn.2 h2⟩
  | .nilF, cs, hn, h => by simpa only [VR] using h
  | .iface t v, cs, hn, h => by
    simp only [AV.noF] at hn
    simp only [VR] at h ⊢
    obtain ⟨c, e, h⟩ := h
    exact ⟨c, e, h.imp (fun ⟨h1, xs, h2, h3⟩ => ⟨h1, xs, VR_back v xs hn h2, h3⟩) (fun ⟨h1, h2⟩ => ⟨h1, VR_back v _ hn h2⟩)⟩
  | .nilI, cs, hn, h => by simpa only [VR] using h
  | .tuple l, cs, hn, h => by
    simp only [VR] at h ⊢
    obtain ⟨xs, e, h⟩ := h
    exact ⟨xs, e, TVl_back l _ (by simpa only [AV.noF] using hn) h⟩
  | .nilM, cs, hn, h => by simpa only [VR] using h
theorem VRs_back {E1 : Emb} : ∀ (l : List AV) (cs : List Value), AV.noFs l = true → VRs E1 l cs → VRs (E.back E1 w) l cs
  | [], cs, hn, h => by simpa only [VRs] using h
  | v :: r, cs, hn, h => by
    simp only [AV.noFs, Bool.and_eq_true] at hn
    simp only [VRs] at h ⊢
    obtain ⟨c1, c2, e, h1, h2⟩ := h
    exact ⟨c1, c2, e, VR_back v c1 hn.1 h1, VRs_back r c2 hn.2 h2⟩
theorem TVl_back {E1 : Emb} : ∀ (l : List AV) (cs : List Value), AV.noFs l = true → TVl E1 l cs → TVl (E.back E1 w) l cs
  | [], cs, hn, h => by simpa only [TVl] using h
  | v :: r, cs, hn, h => by
    simp only [AV.noFs, Bool.and_eq_true] at hn
    simp only [TVl] at h ⊢
    obtain ⟨c, cr, e, h, hr⟩ := h
    exact ⟨c, cr, e, h.imp (fun ⟨h1, xs, h2, h3⟩ => ⟨h1, xs, VR_back v xs hn.1 h2, h3⟩) (fun ⟨h1, h2⟩ => ⟨h1, VR_back v _ hn.1 h2⟩), TVl_back r cr hn.2 hr⟩
end
theorem TV_back {E1 : Emb} {v : AV} {c : Value} (hn : v.noF = true) (h : TV E1 v c) : TV (E.back E1 w) v c :=
  h.imp (fun ⟨h1, xs, h2, h3⟩ => ⟨h1, xs, VR_back v xs hn h2, h3⟩) (fun ⟨h1, h2⟩ => ⟨h1, VR_back v _ hn h2⟩)
theorem noFs_get : ∀ {l : List AV} {j : Nat} {v : AV}, AV.noFs l = true → l[j]? = some v → v.noF = true
  | [], j, v, h, hj => by simp at hj
  | x :: r, 0, v, h, hj => by simp only [AV.noFs, Bool.and_eq_true] at h; simp at hj; subst hj; exact h.1
  | x :: r, j + 1, v, h, hj => by simp only [AV.noFs, Bool.and_eq_true] at h; exact noFs_get h.2 (by simpa using hj)

theorem back_le {E1 : Emb} (hR : Rep E A w) (hE : (E.all w).Le E1) : E.Le (E.back E1 w) :=
  ⟨hE.n, hE.loc, fun b o h => by
    have := (Array.getElem?_eq_some_iff.1 (hR.frm b o h)).1
    simp only [Emb.back, if_pos this]; exact h, rfl, fun _ _ h => h⟩
theorem back_rep {E1 : Emb} {B : Heap} {w' : World} (hR : Rep E A w) (hE : (E.all w).Le E1) (hR1 : Rep E1 B w') (hn : ∀ g c, B g = some c → c.noF = true) :
    Rep (E.back E1 w) (A.join B) w' ∧ ∀ g c, B g = some c → A g = none := by
  have keep : ∀ b, b < w.heap.size → w'.heap[b]? = w.heap[b]? := fun b hb => by
    rw [Array.getElem?_eq_getElem hb]
    exact hR1.frm b _ (hE.F b _ (by simp [Emb.all, Array.getElem?_eq_getElem hb]))
  have heldF : ∀ b, b < w.heap.size → E1.F b ≠ none := fun b hb => by
    rw [hE.F b w.heap[b] (by simp [Emb.all, Array.getElem?_eq_getElem hb])]; simp
  have hlo : E1.lo = E.N := hE.lo
  have hnew : ∀ g c, B g = some c → E.N ≤ g := fun g c hg => by rw [← hlo]; exact hR1.low g c hg
  have hdis : ∀ g c, B g = some c → A g = none := fun g c hg => by
    cases hA : A g with
    | none => rfl
    | some x => exact absurd (hR.lt g x hA) (Nat.not_lt.2 (hnew g c hg))
  have hle := back_le hR hE
  have bnew : ∀ g c, B g = some c → ∀ b off, (E1.loc g).addr = some (b, off) → ¬ b < w.heap.size := fun g c hg b off ha hb => heldF b hb (hR1.blk hg ha).2
  have hj : ∀ g c, (A.join B) g = some c → A g = some c ∨ (A g = none ∧ B g = some c) := fun g c hg => by
    simp only [Heap.join] at hg
    cases hA : A g with
    | none => rw [hA] at hg; exact .inr ⟨rfl, hg⟩
    | some x => rw [hA] at hg; injection hg with hg; subst hg; exact .inl rfl
  have locA : ∀ g c, A g = some c → E1.loc g = E.loc g := fun g c hg => hE.loc g (hR.lt g c hg)
  refine ⟨⟨fun b o hb => ?_, fun g c hg => ?_, fun g c hg => ?_, fun g1 g2 c1 c2 h1 h2 hne a1 a2 e1 e2 => ?_, fun g c hg => ?_, Nat.le_trans hR.lon hE.n, fun b o hb => ?_⟩, hdis⟩
  · simp only [Emb.back] at hb
    split at hb
    · rename_i hlt; rw [keep b hlt]; exact hR.frm b o hb
    · exact hR1.frm b o hb
  · rcases hj g c hg with h | ⟨_, h⟩
    · exact Nat.lt_of_lt_of_le (hR.lt g c h) hE.n
    · exact hR1.lt g c h
  · rcases hj g c hg with h | ⟨_, h⟩
    · refine RepC_mono hle (hR.lt g c h) (hR.cont g c h) (fun b off ha => ?_) (fun b off ha => keep b (hR.blk h ha).1)
      have := hR.blk h ha
      simp only [Emb.back, if_pos this.1]; exact this.2
    · have hc := hR1.cont g c h
      have hcn := hn g c h
      have hbF : ∀ b off, (E1.loc g).addr = some (b, off) → (E.back E1 w).F b = none := fun b off ha => by
        simp only [Emb.back, if_neg (bnew g c h b off ha)]; exact (hR1.blk h ha).2
      cases c with
      | var t l =>
        obtain ⟨b, cs, ha, hF, hb, hv⟩ := hc
        exact ⟨b, cs, ha, hbF _ _ ha, hb, VRs_back l cs hcn hv⟩
      | irow t k l =>
        obtain ⟨h1, h2, h3⟩ := hc
        exact ⟨h1, h2, h3.imp id fun ⟨b, off, C, ha, hF, hb, hx⟩ => ⟨b, off, C, ha, hbF _ _ ha, hb, hx⟩⟩
      | row t sz l =>
        obtain ⟨h1, h2, h3⟩ := hc
        refine ⟨h1, h2, h3.imp id fun ⟨b, off, C, ha, hF, hb, hx, hy⟩ => ⟨b, off, C, ha, hbF _ _ ha, hb, hx, fun j v hjv => ?_⟩⟩
        obtain ⟨cs, k1, k2, k3⟩ := hy j v hjv
        exact ⟨cs, k1, k2, VR_back v cs (noFs_get hcn hjv) k3⟩
      | mp k l =>
        obtain ⟨b, es, ck, ha, hF, hb, hk, hv⟩ := hc
        exact ⟨b, es, ck, ha, hbF _ _ ha, hb, hk, TVl_back _ _ hcn hv⟩
      | srow t k l =>
        obtain ⟨h1, b, C, m, ha, hF, hb, hx⟩ := hc
        exact ⟨h1, b, C, m, ha, hbF _ _ ha, hb, hx⟩
  · simp only [Emb.back] at e1 e2
    rcases hj _ _ h1 with h1 | ⟨_, h1⟩ <;> rcases hj _ _ h2 with h2 | ⟨_, h2⟩
    · rw [locA _ _ h1] at e1; rw [locA _ _ h2] at e2
      exact hR.sep _ _ _ _ h1 h2 hne _ _ e1 e2
    · rw [locA _ _ h1] at e1
      have p := (hR.blk h1 (b := a1.1) (off := a1.2) e1).1
      have q := bnew _ _ h2 a2.1 a2.2 e2
      omega
    · rw [locA _ _ h2] at e2
      have p := (hR.blk h2 (b := a2.1) (off := a2.2) e2).1
      have q := bnew _ _ h1 a1.1 a1.2 e1
      omega
    · exact hR1.sep _ _ _ _ h1 h2 hne _ _ e1 e2
  · rcases hj g c hg with h | ⟨_, h⟩
    · exact hR.low g c h
    · exact Nat.le_trans hR.lon (hnew g c h)
  · have hx := hR.hid b o hb
    have hlt := (Array.getElem?_eq_some_iff.1 hx.1).1
    refine ⟨by rw [keep b hlt]; exact hx.1, by simp only [Emb.back, if_pos hlt]; exact hx.2.1, fun g c hg off e => ?_⟩
    rcases hj g c hg with h | ⟨_, h⟩
    · refine hx.2.2 g c h off ?_
      rw [← locA g c h]; exact e
    · exact bnew g c h b off e hlt

def AOut.noF : AOut → Bool
  | .ret v => v.noF
  | .pan v => v.noF
/-- Each argument is seen as another value. -/
inductive VwL (A : Heap) : List AV → List AV → Prop
  | nil : VwL A [] []
  | cons {v v' : AV} {l l' : List AV} : Vw A v v' → v.isAgg = v'.isAgg → VwL A l l' → VwL A (v :: l) (v' :: l')
theorem vwl_ok (hR : Rep E A w) : ∀ {l l' : List AV} {cs : List Value}, VwL A l l' → TVl E l cs → TVl (E.all w) l' cs
  | _, _, cs, .nil, h => by simpa only [TVl] using h
  | _, _, cs, .cons h1 hag h2, h => by
    simp only [TVl] at h ⊢
    obtain ⟨c, cr, e, h, hr⟩ := h
    exact ⟨c, cr, e, h.imp (fun ⟨k1, xs, k2, k3⟩ => ⟨by rw [← hag]; exact k1, xs, vw_ok hR h1 k2, k3⟩) (fun ⟨k1, k2⟩ => ⟨by rw [← hag]; exact k1, vw_ok hR h1 k2⟩), vwl_ok hR h2 hr⟩

/-- The rule: a call whose arguments are looked at alone. -/
theorem SimX.view {f : FuncId} {args args' : List AV} {K K' : AOut → Heap → Prop} (h : SimX P f args' (fun _ => none) K') (hv : VwL A args args')
    (hn : ∀ o B, K' o B → o.noF = true ∧ ∀ g c, B g = some c → c.noF = true) (hk : ∀ o B, K' o B → (∀ g c, B g = some c → A g = none) → K o (A.join B)) : SimX P f args A K := by
  intro E w cargs hR hT
  refine (h (E.all w) w cargs all_rep (vwl_ok hR hv hT)).mono ?_
  rintro e w' ⟨o, B, E1, hk', hR1, hE, hS, hO⟩
  obtain ⟨n1, n2⟩ := hn o B hk'
  obtain ⟨hr, hd⟩ := back_rep hR hE hR1 n2
  refine ⟨o, A.join B, E.back E1 w, hk o B hk' hd, hr, back_le hR hE, hS, ?_⟩
  cases o with
  | ret v => obtain ⟨c, rfl, hc⟩ := hO; exact ⟨c, rfl, TV_back n1 hc⟩
  | pan v => obtain ⟨c, rfl, hc⟩ := hO; exact ⟨c, rfl, TV_back n1 hc⟩
end
end AVL
