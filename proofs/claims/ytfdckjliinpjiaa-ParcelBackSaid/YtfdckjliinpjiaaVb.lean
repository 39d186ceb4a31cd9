/- The abstract heap, what it means that a world holds it, and how it grows and changes. -/
import Derived.Test.YtfdckjliinpjiaaVa
import Derived.Laws.CopyRow
import Derived.Laws.Entries
import Derived.ChangeKeysEq
namespace AVL
open Go

inductive Cont where
  | var (t : TypeId) (l : List AV)
  | irow (t : TypeId) (k : IntKind) (l : List Int)
  | row (t : TypeId) (sz : Nat) (l : List AV)
  | mp (k : IntKind) (l : List (Int × AV))
  | srow (t : TypeId) (k : IntKind) (l : List Int)

abbrev Heap := Nat → Option Cont
def Heap.set (A : Heap) (g : Nat) (c : Cont) : Heap := fun x => if x = g then some c else A x
def Heap.del (A : Heap) (g : Nat) : Heap := fun x => if x = g then none else A x
theorem Heap.set_same (A : Heap) (g : Nat) (c : Cont) : A.set g c g = some c := by simp [Heap.set]
theorem Heap.set_ne (A : Heap) {g x : Nat} (c : Cont) (h : x ≠ g) : A.set g c x = A x := by simp [Heap.set, h]
def Heap.Sub (A B : Heap) : Prop := ∀ g c, A g = some c → B g = some c

structure Same (w w' : World) : Prop where
  os : w'.os = w.os
  output : w'.output = w.output
  size : w.heap.size ≤ w'.heap.size
theorem Same.refl (w : World) : Same w w := ⟨rfl, rfl, Nat.le_refl _⟩
theorem Same.trans {a b c : World} (h : Same a b) (k : Same b c) : Same a c :=
  ⟨k.os.trans h.os, k.output.trans h.output, Nat.le_trans h.size k.size⟩
theorem Same.alloc (w : World) (o : Obj) : Same w (w.alloc o) := ⟨rfl, rfl, by show w.heap.size ≤ (w.heap.push o).size; simp⟩

/-- What stands in a name's block. -/
def RepC (E : Emb) (w : World) (g : Nat) : Cont → Prop
  | .var t l => ∃ b cs, (E.loc g).addr = some (b, 0) ∧ E.F b = none ∧ w.heap[b]? = some (.cells cs.toArray t (0, 0)) ∧ VRs E l cs
  | .irow t k l => (E.loc g).sz = 1 ∧ l.length ≤ (E.loc g).room ∧ ((E.loc g).addr = none ∧ (E.loc g).room = 0 ∨
      ∃ b off C, (E.loc g).addr = some (b, off) ∧ E.F b = none ∧ w.heap[b]? = some (.cells C t (0, 0)) ∧ off + (E.loc g).room ≤ C.size ∧
        ∀ j, j < l.length → C[off + j]? = some (.int k (l.getD j 0)))
  | .row t sz l => (E.loc g).sz = sz ∧ l.length ≤ (E.loc g).room ∧ ((E.loc g).addr = none ∧ (E.loc g).room = 0 ∨
      ∃ b off C, (E.loc g).addr = some (b, off) ∧ E.F b = none ∧ w.heap[b]? = some (.cells C t (0, 0)) ∧ off + (E.loc g).room * sz ≤ C.size ∧
        ∀ j v, l[j]? = some v → ∃ cs : List Value, cs.length = sz ∧ (∀ i, i < sz → C[off + j * sz + i]? = cs[i]?) ∧ VR E v cs)
  | .mp k l => ∃ b es ck, (E.loc g).addr = some (b, 0) ∧ E.F b = none ∧ w.heap[b]? = some (.map es ck) ∧ es.toList.map (fun e : MapEntry => e.key) = l.map (fun p => .int k p.1) ∧ TVl E (l.map fun p => p.2) (es.toList.map fun e : MapEntry => e.val)
  | .srow t k l => (E.loc g).sz = 1 ∧ ∃ b C m, (E.loc g).addr = some (b, 0) ∧ E.F b = none ∧ w.heap[b]? = some (.cells C t m) ∧ ∀ j, j < l.length → C[j]? = some (.int k (l.getD j 0))

structure Rep (E : Emb) (A : Heap) (w : World) : Prop where
  frm : ∀ b o, E.F b = some o → w.heap[b]? = some o
  lt : ∀ g c, A g = some c → g < E.N
  cont : ∀ g c, A g = some c → RepC E w g c
  sep : ∀ g₁ g₂ c₁ c₂, A g₁ = some c₁ → A g₂ = some c₂ → g₁ ≠ g₂ → ∀ a₁ a₂, (E.loc g₁).addr = some a₁ → (E.loc g₂).addr = some a₂ → a₁.1 ≠ a₂.1
  low : ∀ g c, A g = some c → E.lo ≤ g
  lon : E.lo ≤ E.N
  hid : ∀ b o, E.H b = some o → w.heap[b]? = some o ∧ E.F b = none ∧ ∀ g c, A g = some c → ∀ off, (E.loc g).addr ≠ some (b, off)

theorem Rep.sub {E : Emb} {A B : Heap} {w : World} (h : Rep E B w) (hs : A.Sub B) : Rep E A w :=
  ⟨h.frm, fun g c hg => h.lt g c (hs g c hg), fun g c hg => h.cont g c (hs g c hg),
   fun g1 g2 c1 c2 h1 h2 => h.sep g1 g2 c1 c2 (hs _ _ h1) (hs _ _ h2), fun g c hg => h.low g c (hs g c hg), h.lon,
   fun b o hb => ⟨(h.hid b o hb).1, (h.hid b o hb).2.1, fun g c hg => (h.hid b o hb).2.2 g c (hs g c hg)⟩⟩

theorem RepC_mono0 {E E' : Emb} (hE : E.Le0 E') {w w' : World} {g : Nat} (hg : g < E.N) {c : Cont} (h : RepC E w g c)
    (hF : ∀ b off, (E.loc g).addr = some (b, off) → E'.F b = none)
    (hw : ∀ b off, (E.loc g).addr = some (b, off) → w'.heap[b]? = w.heap[b]?) : RepC E' w' g c := by
  have hl := hE.loc g hg
  cases c with
  | var t l =>
    obtain ⟨b, cs, ha, _, hb, hv⟩ := h
    exact ⟨b, cs, by rw [hl]; exact ha, hF _ _ ha, by rw [hw _ _ ha]; exact hb, VRs_mono0 hE l cs hv⟩
  | irow t k l =>
    obtain ⟨hs, hr, h⟩ := h
    refine ⟨by rw [hl]; exact hs, by rw [hl]; exact hr, ?_⟩
    rw [hl]
    refine h.imp id fun ⟨b, off, C, ha, _, hb, hc, hx⟩ => ⟨b, off, C, ha, hF _ _ ha, by rw [hw _ _ ha]; exact hb, hc, hx⟩
  | row t sz l =>
    obtain ⟨hs, hr, h⟩ := h
    refine ⟨by rw [hl]; exact hs, by rw [hl]; exact hr, ?_⟩
    rw [hl]
    refine h.imp id fun ⟨b, off, C, ha, _, hb, hc, hx⟩ => ⟨b, off, C, ha, hF _ _ ha, by rw [hw _ _ ha]; exact hb, hc, fun j v hj => ?_⟩
    obtain ⟨cs, h1, h2, h3⟩ := hx j v hj
    exact ⟨cs, h1, h2, VR_mono0 hE v cs h3⟩
  | mp k l =>
    obtain ⟨b, es, ck, ha, _, hb, hk, hv⟩ := h
    exact ⟨b, es, ck, by rw [hl]; exact ha, hF _ _ ha, by rw [hw _ _ ha]; exact hb, hk, TVl_mono0 hE _ _ hv⟩
  | srow t k l =>
    obtain ⟨hs, b, C, m, ha, _, hb, hx⟩ := h
    exact ⟨by rw [hl]; exact hs, b, C, m, by rw [hl]; exact ha, hF _ _ ha, by rw [hw _ _ ha]; exact hb, hx⟩
theorem RepC_mono {E E' : Emb} (hE : E.Le E') {w w' : World} {g : Nat} (hg : g < E.N) {c : Cont} (h : RepC E w g c)
    (hF : ∀ b off, (E.loc g).addr = some (b, off) → E'.F b = none)
    (hw : ∀ b off, (E.loc g).addr = some (b, off) → w'.heap[b]? = w.heap[b]?) : RepC E' w' g c := RepC_mono0 hE.to0 hg h hF hw

/-- The block of a live name lies in the world, and is not frozen. -/
theorem Rep.blk {E : Emb} {A : Heap} {w : World} (h : Rep E A w) {g : Nat} {c : Cont} (hg : A g = some c) {b off : Nat} (ha : (E.loc g).addr = some (b, off)) :
    b < w.heap.size ∧ E.F b = none := by
  have hc := h.cont g c hg
  have lt : ∀ {o : Obj}, w.heap[b]? = some o → b < w.heap.size := fun hb => (Array.getElem?_eq_some_iff.1 hb).1
  cases c with
  | var t l =>
    obtain ⟨b', cs, ha', hF, hb, _⟩ := hc
    rw [ha'] at ha; injection ha with ha; injection ha with e1 e2; subst e1
    exact ⟨lt hb, hF⟩
  | irow t k l =>
    obtain ⟨_, _, ⟨hn, _⟩ | ⟨b', o', C, ha', hF, hb, _⟩⟩ := hc
    · rw [hn] at ha; cases ha
    · rw [ha'] at ha; injection ha with ha; injection ha with e1 e2; subst e1
      exact ⟨lt hb, hF⟩
  | row t sz l =>
    obtain ⟨_, _, ⟨hn, _⟩ | ⟨b', o', C, ha', hF, hb, _⟩⟩ := hc
    · rw [hn] at ha; cases ha
    · rw [ha'] at ha; injection ha with ha; injection ha with e1 e2; subst e1
      exact ⟨lt hb, hF⟩
  | mp k l =>
    obtain ⟨b', es, ck, ha', hF, hb, _⟩ := hc
    rw [ha'] at ha; injection ha with ha; injection ha with e1 e2; subst e1
    exact ⟨lt hb, hF⟩
  | srow t k l =>
    obtain ⟨_, b', C, m, ha', hF, hb, _⟩ := hc
    rw [ha'] at ha; injection ha with ha; injection ha with e1 e2; subst e1
    exact ⟨lt hb, hF⟩

/-- The embedding with one name more. -/
def Emb.push (E : Emb) (l : Loc) : Emb := { E with loc := fun g => if g = E.N then l else E.loc g, N := E.N + 1 }
theorem Emb.push_le (E : Emb) (l : Loc) : E.Le (E.push l) :=
  ⟨Nat.le_succ _, fun g hg => by simp [Emb.push, Nat.ne_of_lt hg], fun _ _ h => h, rfl, fun _ _ h => h⟩
theorem Emb.push_loc (E : Emb) (l : Loc) : (E.push l).loc E.N = l := by simp [Emb.push]

theorem heap_alloc_eq (w : World) (o : Obj) (b : Nat) : (w.alloc o).heap[b]? = if b = w.heap.size then some o else w.heap[b]? := by
  show (w.heap.push o)[b]? = _
  rw [Array.getElem?_push]

/-- A new name in a block of its own. -/
theorem Rep.push {E : Emb} {A : Heap} {w w' : World} (h : Rep E A w) (l : Loc) (c : Cont)
    (hF : ∀ b o, E.F b = some o → w'.heap[b]? = some o)
    (hold : ∀ g c, A g = some c → ∀ b off, (E.loc g).addr = some (b, off) → w'.heap[b]? = w.heap[b]?)
    (hnew : ∀ b off, l.addr = some (b, off) → ∀ g c, A g = some c → ∀ b' off', (E.loc g).addr = some (b', off') → b' ≠ b)
    (hH : ∀ b o, E.H b = some o → w'.heap[b]? = some o ∧ ∀ off, l.addr ≠ some (b, off))
    (hc : RepC (E.push l) w' E.N c) : Rep (E.push l) (A.set E.N c) w' := by
  have hl : ∀ g c, A g = some c → (E.push l).loc g = E.loc g := fun g c hg => by simp [Emb.push, Nat.ne_of_lt (h.lt g c hg)]
  refine ⟨hF, fun g x hg => ?_, fun g x hg => ?_, fun g₁ g₂ c₁ c₂ h₁ h₂ hne a₁ a₂ e₁ e₂ => ?_, fun g x hg => ?_, Nat.le_succ_of_le h.lon, fun b o hb => ⟨(hH b o hb).1, (h.hid b o hb).2.1, fun g x hg off => ?_⟩⟩
  · simp only [Heap.set] at hg
    split at hg
    · rename_i e; subst e; exact Nat.lt_succ_self _
    · exact Nat.lt_succ_of_lt (h.lt g x hg)
  · simp only [Heap.set] at hg
    split at hg
    · rename_i e; subst e; injection hg with hg; subst hg; exact hc
    · exact RepC_mono (E.push_le l) (h.lt g x hg) (h.cont g x hg) (fun b off ha => (h.blk hg ha).2) (fun b off ha => hold g x hg b off ha)
  · simp only [Heap.set] at h₁ h₂
    split at h₁ <;> split at h₂
    · rename_i e f; exact absurd (e.trans f.symm) hne
    · rename_i e _; subst e
      rw [Emb.push_loc] at e₁
      rw [hl _ _ h₂] at e₂
      exact fun hh => hnew a₁.1 a₁.2 e₁ _ _ h₂ a₂.1 a₂.2 e₂ hh.symm
    · rename_i _ e; subst e
      rw [Emb.push_loc] at e₂
      rw [hl _ _ h₁] at e₁
      exact hnew a₂.1 a₂.2 e₂ _ _ h₁ a₁.1 a₁.2 e₁
    · rw [hl _ _ h₁] at e₁
      rw [hl _ _ h₂] at e₂
      exact h.sep _ _ _ _ h₁ h₂ hne a₁ a₂ e₁ e₂
  · simp only [Heap.set] at hg
    split at hg
    · rename_i e; subst e; exact h.lon
    · exact h.low g x hg
  · simp only [Heap.set] at hg
    split at hg
    · rename_i e; subst e; rw [Emb.push_loc]; exact (hH b o hb).2 off
    · rw [hl g x hg]; exact (h.hid b o hb).2.2 g x hg off

theorem Rep.fresh {E : Emb} {A : Heap} {w : World} (h : Rep E A w) : A E.N = none := by
  cases hc : A E.N with
  | none => rfl
  | some c => exact absurd (h.lt _ _ hc) (Nat.lt_irrefl _)

/-- A new block, and a name for it. -/
theorem Rep.alloc {E : Emb} {A : Heap} {w : World} (h : Rep E A w) (o : Obj) (l : Loc) (off : Nat) (hl : l.addr = some (w.heap.size, off)) (c : Cont)
    (hc : RepC (E.push l) (w.alloc o) E.N c) : Rep (E.push l) (A.set E.N c) (w.alloc o) := by
  have hb : ∀ b, b < w.heap.size → (w.alloc o).heap[b]? = w.heap[b]? := fun b hb => heap_alloc_old w o b hb
  refine h.push l c (fun b x hx => ?_) (fun g c hg b off ha => hb b (h.blk hg ha).1) (fun b off ha g c hg b' off' ha' => ?_) (fun b x hx => ?_) hc
  · have := h.frm b x hx
    rw [hb b (Array.getElem?_eq_some_iff.1 this).1]; exact this
  · rw [hl] at ha; injection ha with ha; injection ha with e1 e2; subst e1
    exact Nat.ne_of_lt (h.blk hg ha').1
  · have hlt := (Array.getElem?_eq_some_iff.1 (h.hid b x hx).1).1
    rw [hb b hlt]
    refine ⟨(h.hid b x hx).1, fun off e => ?_⟩
    rw [hl] at e; injection e with e; injection e with e1 e2; omega

/-- A block that is kept out of sight for a while. -/
def Emb.hide (E : Emb) (b : Nat) (o : Obj) : Emb := { E with H := fun x => if x = b then some o else E.H x }
def Emb.thaw (E : Emb) (b : Nat) : Emb := { E with H := fun x => if x = b then none else E.H x }
theorem Emb.hide_le0 (E : Emb) (b : Nat) (o : Obj) : E.Le0 (E.hide b o) := ⟨Nat.le_refl _, fun _ _ => rfl, fun _ _ h => h⟩
theorem Emb.thaw_le0 (E : Emb) (b : Nat) : E.Le0 (E.thaw b) := ⟨Nat.le_refl _, fun _ _ => rfl, fun _ _ h => h⟩
theorem Rep.hide {E : Emb} {A : Heap} {w : World} {g : Nat} {c : Cont} (h : Rep E (A.set g c) w) (hA : A g = none) {b off : Nat} (ha : (E.loc g).addr = some (b, off)) :
    ∃ o, E.H b = none ∧ Rep (E.hide b o) A w := by
  have hg := Heap.set_same A g c
  obtain ⟨h1, h2⟩ := h.blk hg ha
  have hn : E.H b = none := by
    cases hh : E.H b with
    | none => rfl
    | some o => exact absurd ha ((h.hid b o hh).2.2 g _ hg off)
  have hs : ∀ g' x, A g' = some x → g' ≠ g ∧ (A.set g c) g' = some x := fun g' x hx => by
    have hne : g' ≠ g := fun e => by subst e; rw [hA] at hx; cases hx
    exact ⟨hne, by rw [Heap.set_ne _ _ hne]; exact hx⟩
  refine ⟨w.heap[b], hn, h.frm, fun g' x hx => h.lt g' x (hs g' x hx).2, fun g' x hx => ?_, fun g₁ g₂ c₁ c₂ k₁ k₂ => h.sep g₁ g₂ c₁ c₂ (hs _ _ k₁).2 (hs _ _ k₂).2, fun g' x hx => h.low g' x (hs g' x hx).2, h.lon, fun x o hx => ?_⟩
  · have k := (hs g' x hx).2
    exact RepC_mono0 (E.hide_le0 b _) (h.lt g' x k) (h.cont g' x k) (fun b off ha => (h.blk k ha).2) fun _ _ _ => rfl
  · simp only [Emb.hide] at hx
    split at hx
    · rename_i e; subst e; injection hx with hx
      refine ⟨by rw [← hx]; exact Array.getElem?_eq_getElem h1, h2, fun g' y hy off' e => ?_⟩
      exact h.sep g' g _ _ (hs g' y hy).2 hg (hs g' y hy).1 _ _ e ha rfl
    · obtain ⟨k1, k2, k3⟩ := h.hid x o hx
      exact ⟨k1, k2, fun g' y hy => k3 g' y (hs g' y hy).2⟩
theorem Emb.hide_le (E : Emb) {b : Nat} (o : Obj) (h : E.H b = none) : E.Le (E.hide b o) :=
  ⟨Nat.le_refl _, fun _ _ => rfl, fun _ _ h => h, rfl, fun x y hx => by
    simp only [Emb.hide]
    split
    · rename_i e; subst e; rw [h] at hx; cases hx
    · exact hx⟩
/-- It is seen again, and has a name. -/
theorem Rep.thaw {E : Emb} {A : Heap} {w : World} {g : Nat} {c : Cont} (h : Rep E A w) {b off : Nat} (ha : (E.loc g).addr = some (b, off)) (hH : ∃ o, E.H b = some o) (hlt : g < E.N) (hlo : E.lo ≤ g)
    (hc : RepC E w g c) : A g = none ∧ Rep (E.thaw b) (A.set g c) w := by
  obtain ⟨o, hH⟩ := hH
  obtain ⟨h1, h2, h3⟩ := h.hid b o hH
  have hA : A g = none := by
    cases hh : A g with
    | none => rfl
    | some x => exact absurd ha (h3 g x hh off)
  have cases' : ∀ g' x, (A.set g c) g' = some x → (g' = g ∧ x = c) ∨ (g' ≠ g ∧ A g' = some x) := fun g' x hx => by
    simp only [Heap.set] at hx
    split at hx
    · rename_i e; injection hx with hx; exact .inl ⟨e, hx.symm⟩
    · rename_i e; exact .inr ⟨e, hx⟩
  refine ⟨hA, h.frm, fun g' x hx => ?_, fun g' x hx => ?_, fun g₁ g₂ c₁ c₂ k₁ k₂ hne a₁ a₂ e₁ e₂ => ?_, fun g' x hx => ?_, h.lon, fun x y hx => ?_⟩
  · rcases cases' g' x hx with ⟨rfl, _⟩ | ⟨_, k⟩
    · exact hlt
    · exact h.lt g' x k
  · rcases cases' g' x hx with ⟨rfl, rfl⟩ | ⟨_, k⟩
    · refine RepC_mono0 (E.thaw_le0 b) hlt hc (fun b' off' ha' => ?_) fun _ _ _ => rfl
      rw [ha] at ha'; injection ha' with ha'; injection ha' with e1 e2; subst e1
      exact h2
    · exact RepC_mono0 (E.thaw_le0 b) (h.lt g' x k) (h.cont g' x k) (fun b off ha => (h.blk k ha).2) fun _ _ _ => rfl
  · have ha' : ((E.thaw b).loc g).addr = some (b, off) := ha
    rcases cases' _ _ k₁ with ⟨rfl, _⟩ | ⟨n1, k1⟩ <;> rcases cases' _ _ k₂ with ⟨e, _⟩ | ⟨n2, k2⟩
    · exact absurd e.symm hne
    · rw [ha'] at e₁; injection e₁ with e₁; subst e₁
      intro e
      refine h3 g₂ c₂ k2 a₂.2 ?_
      rw [show b = a₂.1 from e]; exact e₂
    · subst e
      rw [ha'] at e₂; injection e₂ with e₂; subst e₂
      intro e
      refine h3 g₁ c₁ k1 a₁.2 ?_
      rw [show b = a₁.1 from e.symm]; exact e₁
    · exact h.sep _ _ _ _ k1 k2 hne _ _ e₁ e₂
  · rcases cases' g' x hx with ⟨rfl, _⟩ | ⟨_, k⟩
    · exact hlo
    · exact h.low g' x k
  · simp only [Emb.thaw] at hx
    split at hx
    · cases hx
    · rename_i hxb
      obtain ⟨k1, k2, k3⟩ := h.hid x y hx
      refine ⟨k1, k2, fun g' z hz off' e => ?_⟩
      rcases cases' g' z hz with ⟨rfl, _⟩ | ⟨_, k⟩
      · have ha' : ((E.thaw b).loc g').addr = some (b, off) := ha
        rw [ha'] at e; injection e with e; injection e with e1 e2; exact hxb e1.symm
      · exact k3 g' z k off' e

/-- A world that has grown by what no name knows of. -/
theorem Rep.grow {E : Emb} {A : Heap} {w w' : World} (h : Rep E A w) (hw : ∀ b, b < w.heap.size → w'.heap[b]? = w.heap[b]?) : Rep E A w' :=
  ⟨fun b o ho => by have := h.frm b o ho; rw [hw b (Array.getElem?_eq_some_iff.1 this).1]; exact this, h.lt,
   fun g c hg => RepC_mono (Emb.Le.refl E) (h.lt g c hg) (h.cont g c hg) (fun b off ha => (h.blk hg ha).2) (fun b off ha => hw b (h.blk hg ha).1), h.sep, h.low, h.lon,
   fun b o ho => by have := h.hid b o ho; rw [hw b (Array.getElem?_eq_some_iff.1 this.1).1]; exact this⟩

/-- What a name's block holds is changed. -/
theorem Rep.change {E : Emb} {A : Heap} {w w' : World} (h : Rep E A w) {g : Nat} {c c' : Cont} (hg : A g = some c) {b off : Nat} (ha : (E.loc g).addr = some (b, off))
    (hw : ∀ x, x ≠ b → w'.heap[x]? = w.heap[x]?) (hc : RepC E w' g c') : Rep E (A.set g c') w' := by
  refine ⟨fun x o ho => ?_, fun g' x hx => ?_, fun g' x hx => ?_, fun g₁ g₂ c₁ c₂ h₁ h₂ hne => ?_, fun g' x hx => ?_, h.lon, fun x o ho => ?_⟩
  · have hne : x ≠ b := fun e => by subst e; rw [(h.blk hg ha).2] at ho; cases ho
    rw [hw x hne]; exact h.frm x o ho
  · simp only [Heap.set] at hx
    split at hx
    · rename_i e; subst e; exact h.lt _ _ hg
    · exact h.lt _ _ hx
  · simp only [Heap.set] at hx
    split at hx
    · rename_i e; subst e; injection hx with hx; subst hx; exact hc
    · rename_i e
      refine RepC_mono (Emb.Le.refl E) (h.lt _ _ hx) (h.cont _ _ hx) (fun b' off' ha' => (h.blk hx ha').2) (fun b' off' ha' => hw b' ?_)
      exact fun e' => h.sep _ _ _ _ hx hg e _ _ ha' ha e'
  · have key : ∀ g' x, (A.set g c') g' = some x → ∃ y, A g' = some y := fun g' x hx => by
      simp only [Heap.set] at hx
      split at hx
      · rename_i e; subst e; exact ⟨_, hg⟩
      · exact ⟨_, hx⟩
    obtain ⟨y1, k1⟩ := key _ _ h₁
    obtain ⟨y2, k2⟩ := key _ _ h₂
    exact h.sep _ _ _ _ k1 k2 hne
  · simp only [Heap.set] at hx
    split at hx
    · rename_i e; subst e; exact h.low _ _ hg
    · exact h.low _ _ hx
  · have h1 := h.hid x o ho
    have hne : x ≠ b := fun e => by subst e; exact h1.2.2 g c hg off ha
    refine ⟨by rw [hw x hne]; exact h1.1, h1.2.1, fun g' y hy => ?_⟩
    simp only [Heap.set] at hy
    split at hy
    · rename_i e; subst e; exact h1.2.2 _ _ hg
    · exact h1.2.2 _ _ hy
end AVL
