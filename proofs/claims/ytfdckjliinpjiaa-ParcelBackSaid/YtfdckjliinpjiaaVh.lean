/- Slices: what they lead to, and append. -/
import Derived.Test.YtfdckjliinpjiaaVg
import Derived.Laws.Append
import Derived.Laws.AppendOwn
namespace AVL
open Go
set_option linter.unusedSimpArgs false
set_option linter.unusedVariables false

/-- Elements of so many cells each, one behind the other. -/
def VRe (E : Emb) (sz : Nat) : List AV → List Value → Prop
  | [], cs => cs = []
  | v :: r, cs => ∃ c1 c2, cs = c1 ++ c2 ∧ c1.length = sz ∧ VR E v c1 ∧ VRe E sz r c2
theorem VRe_len {E : Emb} {sz : Nat} : ∀ {l : List AV} {cs : List Value}, VRe E sz l cs → cs.length = l.length * sz
  | [], cs, h => by simp [VRe] at h; simp [h]
  | v :: r, cs, h => by
    obtain ⟨c1, c2, rfl, h1, _, h2⟩ := h
    simp [h1, VRe_len h2, Nat.succ_mul, Nat.add_comm]
theorem VRe_append {E : Emb} {sz : Nat} : ∀ {l m : List AV} {cs ds : List Value}, VRe E sz l cs → VRe E sz m ds → VRe E sz (l ++ m) (cs ++ ds)
  | [], m, cs, ds, h, k => by simp [VRe] at h; subst h; simpa using k
  | v :: r, m, cs, ds, h, k => by
    obtain ⟨c1, c2, rfl, h1, hv, h2⟩ := h
    exact ⟨c1, c2 ++ ds, by simp, h1, hv, VRe_append h2 k⟩
theorem VRe_take {E : Emb} {sz : Nat} : ∀ {l : List AV} {cs : List Value} (n : Nat), VRe E sz l cs → VRe E sz (l.take n) (cs.take (n * sz))
  | [], cs, n, h => by simp [VRe] at h; subst h; simp [VRe]
  | v :: r, cs, 0, h => by simp [VRe]
  | v :: r, cs, n + 1, h => by
    obtain ⟨c1, c2, rfl, h1, hv, h2⟩ := h
    refine ⟨c1, c2.take (n * sz), ?_, h1, hv, VRe_take n h2⟩
    rw [Nat.succ_mul, Nat.add_comm, ← h1, List.take_length_add_append]
theorem VRe_drop {E : Emb} {sz : Nat} : ∀ {l : List AV} {cs : List Value} (n : Nat), VRe E sz l cs → VRe E sz (l.drop n) (cs.drop (n * sz))
  | [], cs, n, h => by simp [VRe] at h; subst h; simp [VRe]
  | v :: r, cs, 0, h => by simpa using h
  | v :: r, cs, n + 1, h => by
    obtain ⟨c1, c2, rfl, h1, hv, h2⟩ := h
    rw [List.drop_succ_cons, Nat.succ_mul, Nat.add_comm (n * sz), ← h1, List.drop_length_add_append, h1]
    exact VRe_drop n h2
theorem VRe_mono {E E' : Emb} (hE : E.Le E') {sz : Nat} : ∀ {l : List AV} {cs : List Value}, VRe E sz l cs → VRe E' sz l cs
  | [], cs, h => h
  | v :: r, cs, h => by
    obtain ⟨c1, c2, e, h1, hv, h2⟩ := h
    exact ⟨c1, c2, e, h1, VR_mono hE v c1 hv, VRe_mono hE h2⟩
theorem VRe_ints {E : Emb} {k : IntKind} : ∀ (l : List Int), VRe E 1 (l.map (AV.int k)) (l.map (Value.int k))
  | [] => rfl
  | n :: r => ⟨[.int k n], r.map (Value.int k), rfl, rfl, by simp [VR], VRe_ints r⟩
theorem VRe_get {E : Emb} {sz : Nat} : ∀ {l : List AV} {cs : List Value} {j : Nat} {v : AV}, VRe E sz l cs → l[j]? = some v →
    ∃ c : List Value, c.length = sz ∧ (∀ i, i < sz → cs[j * sz + i]? = c[i]?) ∧ VR E v c
  | [], cs, j, v, h, hj => by simp at hj
  | u :: r, cs, 0, v, h, hj => by
    obtain ⟨c1, c2, rfl, h1, hv, h2⟩ := h
    simp at hj; subst hj
    exact ⟨c1, h1, fun i hi => by rw [Nat.zero_mul, Nat.zero_add, List.getElem?_append_left (by omega)], hv⟩
  | u :: r, cs, j + 1, v, h, hj => by
    obtain ⟨c1, c2, rfl, h1, hv, h2⟩ := h
    simp at hj
    obtain ⟨c, hc, hcell, hv'⟩ := VRe_get h2 hj
    refine ⟨c, hc, fun i hi => ?_, hv'⟩
    rw [← hcell i hi, List.getElem?_append_right (by rw [h1, Nat.succ_mul]; omega), h1, Nat.succ_mul]
    congr 1; omega
theorem VRe_of {E : Emb} {sz : Nat} : ∀ {l : List AV} {cs : List Value}, cs.length = l.length * sz →
    (∀ j v, l[j]? = some v → ∃ c : List Value, c.length = sz ∧ (∀ i, i < sz → cs[j * sz + i]? = c[i]?) ∧ VR E v c) → VRe E sz l cs
  | [], cs, hl, h => by simp at hl; exact hl
  | v :: r, cs, hl, h => by
    obtain ⟨c, hc, hcell, hv⟩ := h 0 v rfl
    simp only [List.length_cons, Nat.succ_mul] at hl
    have e : cs.take sz = c := by
      apply List.ext_getElem?
      intro i
      rw [List.getElem?_take]
      split
      · rename_i hi
        have := hcell i hi
        simpa using this
      · rw [List.getElem?_eq_none (by omega)]
    refine ⟨c, cs.drop sz, by rw [← e, List.take_append_drop], hc, hv, VRe_of (by simp; omega) (fun j v' hj => ?_)⟩
    obtain ⟨c', hc', hcell', hv'⟩ := h (j + 1) v' (by simpa using hj)
    refine ⟨c', hc', fun i hi => ?_, hv'⟩
    rw [List.getElem?_drop, ← hcell' i hi, Nat.succ_mul]
    congr 1; omega

/-- The row of a name, as its cells. -/
theorem row_cells {E : Emb} {w : World} {g : Nat} {t : TypeId} {sz : Nat} {l : List AV} (h : RepC E w g (.row t sz l)) {b off : Nat} (ha : (E.loc g).addr = some (b, off)) :
    (E.loc g).sz = sz ∧ l.length ≤ (E.loc g).room ∧ E.F b = none ∧ ∃ C, w.heap[b]? = some (.cells C t (0, 0)) ∧ off + (E.loc g).room * sz ≤ C.size ∧ VRe E sz l ((C.toList.drop off).take (l.length * sz)) := by
  obtain ⟨hs, hr, ⟨hn, _⟩ | ⟨b', off', C, ha', hF, hb, hC, hcs⟩⟩ := h
  · rw [hn] at ha; cases ha
  rw [ha] at ha'; injection ha' with ha'; injection ha' with e1 e2; subst e1; subst e2
  refine ⟨hs, hr, hF, C, hb, hC, ?_⟩
  have hle : l.length * sz ≤ (E.loc g).room * sz := Nat.mul_le_mul_right _ hr
  refine VRe_of (by simp; omega) (fun j v hj => ?_)
  obtain ⟨c, hc, hcell, hv⟩ := hcs j v hj
  refine ⟨c, hc, fun i hi => ?_, hv⟩
  have hjl := (List.getElem?_eq_some_iff.1 hj).1
  have : (j + 1) * sz ≤ l.length * sz := Nat.mul_le_mul_right _ hjl
  rw [Nat.succ_mul] at this
  rw [List.getElem?_take, if_pos (by omega), List.getElem?_drop, ← hcell i hi, Nat.add_assoc]
  simp
theorem row_of {E : Emb} {w : World} {g : Nat} {t : TypeId} {sz : Nat} {l : List AV} {b off : Nat} {C : Array Value} (hs : (E.loc g).sz = sz) (hr : l.length ≤ (E.loc g).room)
    (ha : (E.loc g).addr = some (b, off)) (hF : E.F b = none) (hb : w.heap[b]? = some (.cells C t (0, 0))) (hC : off + (E.loc g).room * sz ≤ C.size)
    {cs : List Value} (hv : VRe E sz l cs) (hcs : ∀ i, i < cs.length → C[off + i]? = cs[i]?) : RepC E w g (.row t sz l) := by
  refine ⟨hs, hr, .inr ⟨b, off, C, ha, hF, hb, hC, fun j v hj => ?_⟩⟩
  obtain ⟨c, hc, hcell, hv'⟩ := VRe_get hv hj
  refine ⟨c, hc, fun i hi => ?_, hv'⟩
  have hjl := (List.getElem?_eq_some_iff.1 hj).1
  have : (j + 1) * sz ≤ l.length * sz := Nat.mul_le_mul_right _ hjl
  rw [Nat.succ_mul] at this
  rw [Nat.add_assoc, hcs _ (by rw [VRe_len hv]; omega), hcell i hi]
theorem irow_row {E : Emb} {w : World} {g : Nat} {t : TypeId} {k : IntKind} {l : List Int} : RepC E w g (.irow t k l) ↔ RepC E w g (.row t 1 (l.map (AV.int k))) := by
  simp only [RepC, List.length_map, Nat.mul_one]
  refine and_congr_right fun _ => and_congr_right fun _ => or_congr Iff.rfl ?_
  constructor
  · rintro ⟨b, off, C, ha, hF, hb, hC, hcs⟩
    refine ⟨b, off, C, ha, hF, hb, hC, fun j v hj => ?_⟩
    rw [List.getElem?_map] at hj
    by_cases hjl : j < l.length
    · rw [List.getElem?_eq_getElem hjl] at hj
      simp at hj; subst hj
      refine ⟨[.int k l[j]], rfl, fun i hi => ?_, by simp [VR]⟩
      have := hcs j hjl
      have hi0 : i = 0 := by omega
      subst hi0
      simpa [List.getD_eq_getElem?_getD, hjl] using this
    · rw [List.getElem?_eq_none (by omega)] at hj; cases hj
  · rintro ⟨b, off, C, ha, hF, hb, hC, hcs⟩
    refine ⟨b, off, C, ha, hF, hb, hC, fun j hjl => ?_⟩
    obtain ⟨c, hc, hcell, hv⟩ := hcs j (.int k l[j]) (by simp [hjl])
    simp only [VR] at hv; subst hv
    have := hcell 0 (by omega)
    simpa [List.getD_eq_getElem?_getD, hjl] using this
theorem Rep.irow {E : Emb} {A : Heap} {w : World} {g : Nat} {t : TypeId} {k : IntKind} {l : List Int} (h : Rep E (A.set g (.row t 1 (l.map (AV.int k)))) w) : Rep E (A.set g (.irow t k l)) w := by
  refine ⟨h.frm, fun g' c hg => ?_, fun g' c hg => ?_, fun g1 g2 c1 c2 h1 h2 hne => ?_, fun g' c hg => ?_, h.lon, fun b o hb => ⟨(h.hid b o hb).1, (h.hid b o hb).2.1, fun g' c hg => ?_⟩⟩
  · simp only [Heap.set] at hg
    split at hg
    · rename_i e; subst e; exact h.lt g' _ (Heap.set_same _ _ _)
    · rename_i e; exact h.lt g' c (by rw [Heap.set_ne _ _ e]; exact hg)
  · simp only [Heap.set] at hg
    split at hg
    · rename_i e; subst e; injection hg with hg; subst hg; exact irow_row.2 (h.cont g' _ (Heap.set_same _ _ _))
    · rename_i e; exact h.cont g' c (by rw [Heap.set_ne _ _ e]; exact hg)
  · have key : ∀ g' c, (A.set g (.irow t k l)) g' = some c → ∃ y, (A.set g (.row t 1 (l.map (AV.int k)))) g' = some y := fun g' c hx => by
      by_cases e : g' = g
      · subst e; exact ⟨_, Heap.set_same _ _ _⟩
      · rw [Heap.set_ne _ _ e] at hx ⊢; exact ⟨_, hx⟩
    obtain ⟨y1, k1⟩ := key _ _ h1
    obtain ⟨y2, k2⟩ := key _ _ h2
    exact h.sep _ _ _ _ k1 k2 hne
  · by_cases e : g' = g
    · subst e; exact h.low g' _ (Heap.set_same _ _ _)
    · rw [Heap.set_ne _ _ e] at hg; exact h.low g' c (by rw [Heap.set_ne _ _ e]; exact hg)
  · by_cases e : g' = g
    · subst e; exact (h.hid b o hb).2.2 g' _ (Heap.set_same _ _ _)
    · rw [Heap.set_ne _ _ e] at hg; exact (h.hid b o hb).2.2 g' c (by rw [Heap.set_ne _ _ e]; exact hg)

theorem SR_get {E : Emb} {b sz : Nat} : ∀ {l : List AV} {off : Nat}, SR E b sz off l → ∃ cs, VRe E sz l cs ∧ ∀ i, i < cs.length → E.cell b (off + i) = cs[i]?
  | [], off, h => ⟨[], rfl, fun i hi => by simp at hi⟩
  | v :: r, off, h => by
    simp only [SR] at h
    obtain ⟨⟨cs, hl, hc, hv⟩, hr⟩ := h
    obtain ⟨ds, hd, hcell⟩ := SR_get hr
    refine ⟨cs ++ ds, ⟨cs, ds, rfl, hl, hv, hd⟩, fun i hi => ?_⟩
    by_cases h1 : i < sz
    · rw [List.getElem?_append_left (by omega)]; exact hc i h1
    · rw [List.getElem?_append_right (by omega), ← hcell (i - cs.length) (by simp at hi; omega)]
      congr 1; omega

def bytesI (s : ByteArray) : List Int := s.data.toList.map fun b => (b.toNat : Int)

/-- The elements that a slice or a string leads to. -/
def srcG (sz : Nat) (s : AV) (A : Heap) (Q : List AV → Prop) : Prop :=
  match s with
  | .nilS => Q []
  | .isl k l => sz = 1 ∧ Q (l.map (AV.int k))
  | .dsl s l => s = sz ∧ Q l
  | .str x => sz = 1 ∧ Q ((bytesI x).map (AV.int .u8))
  | .own g i n => match A g with
    | some (.irow _ k l) => sz = 1 ∧ i + n ≤ l.length ∧ Q (((l.drop i).take n).map (AV.int k))
    | some (.row _ s l) => s = sz ∧ i + n ≤ l.length ∧ Q ((l.drop i).take n)
    | _ => False
  | .asl g o m i n => match A g with
    | some (.var _ l) => match getI l o m with
      | some (k, xs) => sz = 1 ∧ xs.length = m ∧ Q (((xs.drop i).take n).map (AV.int k))
      | none => False
    | _ => False
  | _ => False
/-- The whole numbers that a slice or a string leads to. -/
def srcI (k : IntKind) (s : AV) (A : Heap) (Q : List Int → Prop) : Prop :=
  match s with
  | .nilS => Q []
  | .isl k' l => k' = k ∧ Q l
  | .str x => k = .u8 ∧ Q (bytesI x)
  | .own g i n => match A g with
    | some (.irow _ k' l) => k' = k ∧ i + n ≤ l.length ∧ Q ((l.drop i).take n)
    | _ => False
  | .asl g o m i n => match A g with
    | some (.var _ l) => match getI l o m with
      | some (k', xs) => k' = k ∧ xs.length = m ∧ Q ((xs.drop i).take n)
      | none => False
    | _ => False
  | _ => False
theorem srcI_G {k : IntKind} {s : AV} {A : Heap} {Q : List Int → Prop} (h : srcI k s A Q) : srcG 1 s A fun vs => ∃ ys, vs = ys.map (AV.int k) ∧ Q ys := by
  unfold srcI at h
  unfold srcG
  split at h
  · exact ⟨[], rfl, h⟩
  · obtain ⟨rfl, h⟩ := h; exact ⟨rfl, _, rfl, h⟩
  · obtain ⟨rfl, h⟩ := h; exact ⟨rfl, _, rfl, h⟩
  · rename_i g i n
    cases hA : A g with
    | none => rw [hA] at h; exact h.elim
    | some c =>
      rw [hA] at h
      cases c with
      | irow t k' l => obtain ⟨rfl, h1, h⟩ := h; simp only [hA]; exact ⟨trivial, h1, _, rfl, h⟩
      | var _ _ => exact h.elim
      | row _ _ _ => exact h.elim
      | mp _ _ => exact h.elim
      | srow _ _ _ => exact h.elim
  · rename_i g o m i n
    cases hA : A g with
    | none => rw [hA] at h; exact h.elim
    | some c =>
      rw [hA] at h
      cases c with
      | irow t k' l => exact h.elim
      | var _ l =>
        simp only [hA] at h ⊢
        cases hg : getI l o m with
        | none => rw [hg] at h; exact h.elim
        | some kx =>
          obtain ⟨k', xs⟩ := kx
          rw [hg] at h
          obtain ⟨rfl, h1, h⟩ := h
          exact ⟨trivial, h1, _, rfl, h⟩
      | row _ _ _ => exact h.elim
      | mp _ _ => exact h.elim
      | srow _ _ _ => exact h.elim
  · exact h.elim

section
variable {P : Program} {w : World} {E : Emb} {A : Heap} {K : AV → Heap → Prop}

/-- How the machine reads what a slice leads to. -/
structure Reads (P : Program) (w : World) (E : Emb) (sz : Nat) (c : Value) (vs : List AV) (cs : List Value) : Prop where
  len : (Builtin.lenOf c).run P w = .ok vs.length w
  cells : VRe E sz vs cs
  first : ∀ w' n, w'.heap = w.heap → n ≤ vs.length → (Builtin.firstCells sz n c).run P w' = .ok (cs.take (n * sz)).toArray w'

theorem cell_heap {w w' : World} (h : w'.heap = w.heap) (a : Addr) : w'.cell? a = w.cell? a := by simp [World.cell?, h]

theorem reads_at {sz : Nat} {vs : List AV} {cs : List Value} {a : Option Addr} {cap : Nat} (hv : VRe E sz vs cs)
    (h : 0 < vs.length → ∃ b off, a = some (pA b off) ∧ ∀ i v, cs[i]? = some v → w.cell? (pA b (off + i)) = some v) : Reads P w E sz (.slice a vs.length cap) vs cs := by
  refine ⟨rfl, hv, fun w' n hw hn => ?_⟩
  have hlen := VRe_len hv
  cases a with
  | none =>
    have : vs.length = 0 := by
      rcases Nat.eq_zero_or_pos vs.length with h0 | h0
      · exact h0
      · obtain ⟨_, _, e, _⟩ := h h0; cases e
    have : cs = [] := List.eq_nil_of_length_eq_zero (by rw [hlen, this]; simp)
    subst this
    simp [Builtin.firstCells]
  | some ad =>
    have hle : n * sz ≤ cs.length := by rw [hlen]; exact Nat.mul_le_mul_right _ hn
    have hl : (cs.take (n * sz)).length = n * sz := by simp; omega
    have : (Builtin.firstCells sz n (.slice (some ad) vs.length cap)).run P w' = (loadCells ad (n * sz)).run P w' := rfl
    rw [this]
    have := run_loadCells_list (P := P) w' ad (cs.take (n * sz)) (fun j v hj => by
      rw [List.getElem?_take] at hj
      split at hj
      · have hpos : 0 < vs.length := by
          rcases Nat.eq_zero_or_pos vs.length with h0 | h0
          · rw [h0] at hlen; have := (List.getElem?_eq_some_iff.1 hj).1; omega
          · exact h0
        obtain ⟨b, off, e, hc⟩ := h hpos
        injection e with e; subst e
        rw [pA_add, cell_heap hw]; exact hc j v hj
      · cases hj)
    rw [hl] at this
    exact this

theorem srcG_ok {sz : Nat} {s : AV} {c : Value} {Q : List AV → Prop} (hR : Rep E A w) (hs : TV E s c) (h : srcG sz s A Q) : ∃ vs cs, Q vs ∧ Reads P w E sz c vs cs := by
  unfold srcG at h
  split at h
  · simp only [TV_nilS] at hs; subst hs
    exact ⟨[], [], h, reads_at (vs := []) (cs := []) rfl (fun h => by simp at h)⟩
  · rename_i k l
    obtain ⟨rfl, h⟩ := h
    obtain ⟨a, cap, rfl, hcap, hp⟩ := TV_isl.1 hs
    refine ⟨_, l.map (Value.int k), h, ?_⟩
    have := reads_at (P := P) (w := w) (a := a) (cap := cap) (VRe_ints (E := E) (k := k) l) (fun hpos => by
      obtain ⟨b, off, e, hc⟩ := hp (by simpa using hpos)
      refine ⟨b, off, e, fun i v hi => ?_⟩
      rw [List.getElem?_map] at hi
      by_cases hil : i < l.length
      · rw [List.getElem?_eq_getElem hil] at hi
        simp at hi; subst hi
        have := frm_cell hR (hc i hil)
        simpa [List.getD_eq_getElem?_getD, hil] using this
      · rw [List.getElem?_eq_none (by omega)] at hi; cases hi)
    simpa using this
  · rename_i s' l
    obtain ⟨rfl, h⟩ := h
    obtain ⟨a, cap, rfl, hcap, hp⟩ := TV_dsl.1 hs
    by_cases hpos : 0 < l.length
    · obtain ⟨b, off, rfl, hsr⟩ := hp hpos
      obtain ⟨cs, hv, hc⟩ := SR_get hsr
      refine ⟨_, _, h, reads_at hv (fun _ => ⟨b, off, rfl, fun i v hi => ?_⟩)⟩
      have := (List.getElem?_eq_some_iff.1 hi).1
      exact frm_cell hR (by rw [hc i this]; exact hi)
    · have hl : l = [] := List.eq_nil_of_length_eq_zero (by omega)
      subst hl
      exact ⟨[], [], h, reads_at (vs := []) (cs := []) rfl (fun h => by simp at h)⟩
  · rename_i x
    obtain ⟨rfl, h⟩ := h
    simp only [TV_str] at hs; subst hs
    refine ⟨_, (bytesI x).map (Value.int .u8), h, ⟨?_, VRe_ints _, fun w' n hw hn => ?_⟩⟩
    · show Result.ok x.size w = _
      congr 1
      simp [bytesI]
    · simp only [Builtin.firstCells, Sem.run_pure]
      congr 1
      apply Array.toList_inj.1
      simp [bytesI, ByteArray.data_extract, List.map_take]; rfl
  · rename_i g i n
    obtain ⟨hg, a, cap, rfl, hcap, hroom, hloc⟩ := TV_own.1 hs
    have main : ∀ t sz' l, RepC E w g (.row t sz' l) → i + n ≤ l.length → ∃ cs, Reads P w E sz' (.slice a n cap) ((l.drop i).take n) cs := by
      intro t sz' l hc hin
      have hlen : ((l.drop i).take n).length = n := by simp; omega
      rcases hloc with rfl | ⟨b, off, ha, rfl⟩
      · have hn0 : n = 0 := by omega
        subst hn0
        exact ⟨[], by simpa using reads_at (P := P) (w := w) (E := E) (sz := sz') (vs := []) (cs := []) (a := a) (cap := 0) rfl (fun h => by simp at h)⟩
      · obtain ⟨hsz, hr, hF, C, hb, hC, hv⟩ := row_cells hc ha
        have hv2 := VRe_take n (VRe_drop i hv)
        refine ⟨(List.take (n * sz') (List.drop (i * sz') (List.take (l.length * sz') (List.drop off C.toList)))), ?_⟩
        have := reads_at (P := P) (w := w) (a := some (pA b (off + i * (E.loc g).sz))) (cap := cap) hv2 (fun _ => ⟨b, _, rfl, fun j v hj => ?_⟩)
        · rw [hlen] at this; exact this
        · rw [hsz, cell_at hb]
          rw [List.getElem?_take] at hj
          split at hj
          · rw [List.getElem?_drop, List.getElem?_take] at hj
            split at hj
            · rw [List.getElem?_drop] at hj
              rw [← hj]
              simp
              congr 1; omega
            · cases hj
          · cases hj
    split at h
    · rename_i t k l hA
      obtain ⟨rfl, hin, h⟩ := h
      obtain ⟨cs, hr⟩ := main t 1 (l.map (AV.int k)) (irow_row.1 (hR.cont g _ hA)) (by simpa using hin)
      exact ⟨_, cs, h, by simpa [List.map_take, List.map_drop] using hr⟩
    · rename_i t s' l hA
      obtain ⟨rfl, hin, h⟩ := h
      obtain ⟨cs, hr⟩ := main t _ l (hR.cont g _ hA) hin
      exact ⟨_, cs, h, hr⟩
    · exact h.elim
  · rename_i g o m i n
    obtain ⟨hg, him, a, rfl, hloc⟩ := TV_asl.1 hs
    split at h
    · rename_i t l hA
      split at h
      · rename_i k xs hget
        obtain ⟨rfl, hxl, h⟩ := h
        obtain ⟨b', cs, ha', hF, hb, hv⟩ := hR.cont g _ hA
        obtain ⟨hle, hcs⟩ := getI_ok hv hget
        have hlen : ((xs.drop i).take n).length = n := by simp; omega
        refine ⟨_, ((xs.drop i).take n).map (Value.int k), h, ?_⟩
        have := reads_at (P := P) (w := w) (a := a) (cap := m - i) (VRe_ints (E := E) (k := k) ((xs.drop i).take n)) (fun hpos => ?_)
        · rw [List.length_map, hlen] at this; exact this
        · rw [List.length_map, hlen] at hpos
          rcases hloc with rfl | ⟨b, off, ha, rfl⟩
          · omega
          rw [ha] at ha'; injection ha' with ha'; injection ha' with e1 e2; subst e1; subst e2
          refine ⟨b, _, rfl, fun j v hj => ?_⟩
          rw [cell_at hb]
          rw [List.getElem?_map, List.getElem?_take] at hj
          split at hj
          · rename_i hjn
            have := hcs (i + j) (by omega)
            rw [List.getElem?_drop, List.getElem?_eq_getElem (by omega)] at hj
            simp at hj; subst hj
            rw [← Nat.add_assoc] at this
            simpa [List.getD_eq_getElem?_getD, show i + j < xs.length by omega] using this
          · cases hj
      · exact h.elim
    · exact h.elim
  · exact h.elim
end
end AVL
