/- Parts of struct and array values; reading and writing variables. -/
import Derived.Test.YtfdckjliinpjiaaVb
import Derived.Laws.Build
import Derived.Laws.Tables
namespace AVL
open Go
set_option linter.unusedSimpArgs false
set_option linter.unusedVariables false

inductive Sh where
  | sc
  | ag
  | ia (k : IntKind) (n : Nat)
  deriving DecidableEq

def comps : AV → List AV
  | .agg l => l
  | v => [v]

def dropC : List AV → Nat → Option (List AV)
  | l, 0 => some l
  | [], _ + 1 => none
  | v :: r, n + 1 => if v.size ≤ n + 1 then dropC r (n + 1 - v.size) else match v with
    | .iarr k m l => some (.iarr k (m - (n + 1)) (l.drop (n + 1)) :: r)
    | _ => none
def takeC : List AV → Nat → Option (List AV)
  | _, 0 => some []
  | [], _ + 1 => none
  | v :: r, n + 1 => if v.size ≤ n + 1 then (takeC r (n + 1 - v.size)).map (v :: ·) else match v with
    | .iarr k _ l => some [.iarr k (n + 1) (l.take (n + 1))]
    | _ => none
def setC (l : List AV) (off sz : Nat) (new : List AV) : Option (List AV) :=
  match takeC l off, dropC l (off + sz) with
  | some a, some r => some (a ++ (new ++ r))
  | _, _ => none
def intsOf (k : IntKind) : List AV → Option (List Int)
  | [] => some []
  | .int k' n :: r => if k' = k then (intsOf k r).map (n :: ·) else none
  | _ => none
/-- The numbers, single or in rows. -/
def intsQ (k : IntKind) : List AV → Option (List Int)
  | [] => some []
  | .int k' n :: r => if k' = k then (intsQ k r).map (n :: ·) else none
  | .iarr k' n x :: r => if k' = k ∧ x.length = n then (intsQ k r).map (x ++ ·) else none
  | _ => none
def shp : Sh → List AV → Option AV
  | .sc, [v] => match v with
    | .iarr k n l => if n = 1 then some (.int k (l.getD 0 0)) else none
    | .agg _ => none
    | v => some v
  | .sc, _ => none
  | .ag, l => some (.agg l)
  | .ia k n, l => match l with
    | [.iarr k' n' x] => if k' = k ∧ n' = n then some (.iarr k n x) else none
    | l => match intsQ k l with
      | some x => if x.length = n then some (.iarr k n x) else none
      | none => none
def getC (l : List AV) (off sz : Nat) (sh : Sh) : Option AV :=
  match dropC l off with
  | some r => match takeC r sz with
    | some x => shp sh x
    | none => none
  | none => none

/-- The machine's value of a shape over cells. -/
def ShV (sh : Sh) (cs : List Value) (c : Value) : Prop :=
  match sh with
  | .sc => cs = [c]
  | _ => c = .agg cs.toArray

theorem range_map_drop {α : Type} (f : Nat → α) (m n : Nat) : ((List.range m).map f).drop n = (List.range (m - n)).map (fun j => f (n + j)) := by
  apply List.ext_getElem?
  intro i
  simp only [List.getElem?_drop, List.getElem?_map, List.getElem?_range]
  by_cases h : n + i < m
  · rw [List.getElem?_range h, List.getElem?_range (by omega)]; rfl
  · rw [List.getElem?_eq_none (by simpa using h), List.getElem?_eq_none (by simp; omega)]; rfl
theorem range_map_take {α : Type} (f : Nat → α) (m n : Nat) (h : n ≤ m) : ((List.range m).map f).take n = (List.range n).map f := by
  apply List.ext_getElem?
  intro i
  simp only [List.getElem?_take, List.getElem?_map]
  by_cases h' : i < n
  · rw [List.getElem?_range h', List.getElem?_range (by omega)]; simp [h']
  · rw [List.getElem?_eq_none (l := List.range n) (by simpa using h')]; simp [h']

theorem dropC_ok {E : Emb} : ∀ (l : List AV) (n : Nat) (cs : List Value) (r : List AV), VRs E l cs → dropC l n = some r → VRs E r (cs.drop n) ∧ n ≤ cs.length
  | l, 0, cs, r, h, hd => by
    have : r = l := by cases l <;> simpa [dropC, eq_comm] using hd
    subst this; simpa using h
  | [], n + 1, cs, r, h, hd => by simp [dropC] at hd
  | v :: l, n + 1, cs, r, h, hd => by
    simp only [VRs] at h
    obtain ⟨c1, c2, rfl, h1, h2⟩ := h
    have hl := VR_len v c1 h1
    simp only [dropC] at hd
    split at hd
    · rename_i hs
      obtain ⟨ih, hle⟩ := dropC_ok l _ c2 r h2 hd
      refine ⟨?_, by simp; omega⟩
      rw [List.drop_append, List.drop_of_length_le (by omega), List.nil_append, hl]
      exact ih
    · rename_i hs
      split at hd
      · rename_i k m x
        injection hd with hd; subst hd
        simp only [AV.size] at hs hl
        simp only [VR] at h1
        refine ⟨?_, by simp; omega⟩
        rw [List.drop_append_of_le_length (by omega)]
        simp only [VRs, VR]
        refine ⟨_, _, rfl, ?_, h2⟩
        rw [h1, range_map_drop]
        apply List.map_congr_left
        intro j _
        simp [List.getD_eq_getElem?_getD, List.getElem?_drop]
      · cases hd
theorem takeC_ok {E : Emb} : ∀ (l : List AV) (n : Nat) (cs : List Value) (r : List AV), VRs E l cs → takeC l n = some r → VRs E r (cs.take n) ∧ n ≤ cs.length
  | l, 0, cs, r, h, hd => by
    have : r = [] := by cases l <;> simpa [takeC, eq_comm] using hd
    subst this; simp [VRs]
  | [], n + 1, cs, r, h, hd => by simp [takeC] at hd
  | v :: l, n + 1, cs, r, h, hd => by
    simp only [VRs] at h
    obtain ⟨c1, c2, rfl, h1, h2⟩ := h
    have hl := VR_len v c1 h1
    simp only [takeC] at hd
    split at hd
    · rename_i hs
      cases ht : takeC l (n + 1 - v.size) with
      | none => rw [ht] at hd; simp at hd
      | some x =>
        rw [ht] at hd; simp at hd; subst hd
        obtain ⟨ih, hle⟩ := takeC_ok l _ c2 x h2 ht
        refine ⟨?_, by simp; omega⟩
        rw [List.take_append, List.take_of_length_le (by omega), hl]
        simp only [VRs]
        exact ⟨_, _, rfl, h1, ih⟩
    · rename_i hs
      split at hd
      · rename_i k m x
        injection hd with hd; subst hd
        simp only [AV.size] at hs hl
        simp only [VR] at h1
        refine ⟨?_, by simp; omega⟩
        rw [List.take_append_of_le_length (by omega)]
        simp only [VRs, VR]
        refine ⟨_, [], (List.append_nil _).symm, ?_, rfl⟩
        rw [h1, range_map_take _ _ _ (by omega)]
        apply List.map_congr_left
        intro j hj
        simp at hj
        simp [List.getD_eq_getElem?_getD, List.getElem?_take, hj]
      · cases hd
theorem VRs_append {E : Emb} : ∀ (l₁ l₂ : List AV) (c₁ c₂ : List Value), VRs E l₁ c₁ → VRs E l₂ c₂ → VRs E (l₁ ++ l₂) (c₁ ++ c₂)
  | [], l₂, c₁, c₂, h1, h2 => by simp [VRs] at h1; subst h1; simpa using h2
  | v :: l, l₂, c₁, c₂, h1, h2 => by
    simp only [VRs, List.cons_append] at h1 ⊢
    obtain ⟨x, y, rfl, hx, hy⟩ := h1
    exact ⟨x, y ++ c₂, by simp, hx, VRs_append l l₂ y c₂ hy h2⟩
theorem setC_ok {E : Emb} {l new r : List AV} {off sz : Nat} {cs ns : List Value} (h : VRs E l cs) (hn : VRs E new ns) (hs : setC l off sz new = some r) :
    VRs E r (cs.take off ++ (ns ++ cs.drop (off + sz))) ∧ off + sz ≤ cs.length := by
  unfold setC at hs
  split at hs
  · rename_i a b ha hb
    injection hs with hs; subst hs
    obtain ⟨h1, _⟩ := takeC_ok l off cs a h ha
    obtain ⟨h2, hle⟩ := dropC_ok l (off + sz) cs b h hb
    exact ⟨VRs_append _ _ _ _ h1 (VRs_append _ _ _ _ hn h2), hle⟩
  · cases hs
theorem intsOf_ok {E : Emb} {k : IntKind} : ∀ (l : List AV) (x : List Int) (cs : List Value), VRs E l cs → intsOf k l = some x → cs = x.map (Value.int k)
  | [], x, cs, h, hi => by simp [intsOf] at hi; subst hi; simpa [VRs] using h
  | v :: r, x, cs, h, hi => by
    cases v <;> simp only [intsOf] at hi <;> try (cases hi)
    rename_i k' n
    split at hi
    · rename_i e; subst e
      cases hr : intsOf k' r with
      | none => rw [hr] at hi; simp at hi
      | some y =>
        rw [hr] at hi; simp at hi; subst hi
        simp only [VRs, VR] at h
        obtain ⟨c1, c2, rfl, rfl, h2⟩ := h
        simp [intsOf_ok r y c2 h2 hr]
    · cases hi
theorem range_getD {k : IntKind} (l : List Int) : (List.range l.length).map (fun j => Value.int k (l.getD j 0)) = l.map (Value.int k) := by
  apply List.ext_getElem (by simp)
  intro i h1 h2
  simp only [List.length_map] at h2
  simp [List.getElem?_eq_getElem h2]
theorem intsQ_ok {E : Emb} {k : IntKind} : ∀ (l : List AV) (x : List Int) (cs : List Value), VRs E l cs → intsQ k l = some x → cs = x.map (Value.int k)
  | [], x, cs, h, hi => by simp [intsQ] at hi; subst hi; simpa [VRs] using h
  | v :: r, x, cs, h, hi => by
    cases v <;> simp only [intsQ] at hi <;> try (cases hi; done)
    case int k' n =>
      split at hi
      · rename_i e; subst e
        cases hr : intsQ k' r with
        | none => rw [hr] at hi; simp at hi
        | some y =>
          rw [hr] at hi; simp at hi; subst hi
          simp only [VRs, VR] at h
          obtain ⟨c1, c2, rfl, rfl, h2⟩ := h
          simp [intsQ_ok r y c2 h2 hr]
      · cases hi
    case iarr k' n z =>
      split at hi
      · rename_i e; obtain ⟨e, e2⟩ := e; subst e; subst e2
        cases hr : intsQ k' r with
        | none => rw [hr] at hi; simp at hi
        | some y =>
          rw [hr] at hi; simp at hi; subst hi
          simp only [VRs, VR] at h
          obtain ⟨c1, c2, rfl, rfl, h2⟩ := h
          rw [range_getD]
          simp [intsQ_ok r y c2 h2 hr]
      · cases hi
theorem shp_ok {E : Emb} {sh : Sh} {l : List AV} {v : AV} {cs : List Value} {c : Value} (h : VRs E l cs) (hs : shp sh l = some v) (hc : ShV sh cs c) : TV E v c := by
  unfold shp at hs
  split at hs
  · rename_i v'
    simp only [VRs] at h
    obtain ⟨c1, c2, rfl, h1, rfl⟩ := h
    simp only [ShV, List.append_nil] at hc
    subst hc
    split at hs
    · split at hs
      · rename_i e; subst e
        injection hs with hs; subst hs
        simp only [VR] at h1
        exact TV.sc rfl (by simpa [VR] using h1)
      · cases hs
    · cases hs
    · injection hs with hs; subst hs
      rename_i ha hb
      refine TV.sc ?_ h1
      cases v' <;> first | rfl | (exact absurd rfl (ha _ _ _)) | (exact absurd rfl (hb _))
  · cases hs
  · injection hs with hs; subst hs
    simp only [ShV] at hc; subst hc
    exact TV.agg rfl (by simpa only [VR] using h)
  · rename_i k n l
    simp only [ShV] at hc; subst hc
    split at hs
    · rename_i k' n' x
      split at hs
      · rename_i e; obtain ⟨rfl, rfl⟩ := e
        injection hs with hs; subst hs
        simp only [VRs] at h
        obtain ⟨c1, c2, rfl, h1, rfl⟩ := h
        exact TV.agg rfl (by simpa using h1)
      · cases hs
    · split at hs
      · rename_i x hx
        split at hs
        · rename_i e; subst e
          injection hs with hs; subst hs
          have := intsQ_ok _ _ _ h hx
          subst this
          refine TV.agg rfl ?_
          simp only [VR]
          apply List.ext_getElem?
          intro j
          simp only [List.getElem?_map]
          by_cases hj : j < x.length
          · simp [hj, List.getD_eq_getElem?_getD]
          · rw [List.getElem?_eq_none (by omega), List.getElem?_eq_none (by simpa using hj)]; rfl
        · cases hs
      · cases hs

def good : AV → Bool
  | .undef | .tuple _ => false
  | _ => true

theorem comps_ok {E : Emb} {v : AV} {c : Value} (hg : good v = true) (h : TV E v c) : VRs E (comps v) c.cells.toList := by
  rcases h with ⟨hv, xs, hx, rfl⟩ | ⟨hv, hx⟩
  · cases v <;> simp only [AV.isAgg, Bool.false_eq_true] at hv
    · simpa [comps, Value.cells, VR] using hx
    · simp only [comps, Value.cells, VRs]
      exact ⟨xs, [], by simp, hx, rfl⟩
  · have ho : v.ok = true := by cases v <;> simp_all [good, AV.ok]
    rcases VR_cells hv ho hx with ⟨hc, _⟩ | ⟨ys, rfl⟩
    · have : comps v = [v] := by cases v <;> simp_all [AV.isAgg, comps]
      rw [this, hc]
      simp only [VRs]
      exact ⟨[c], [], rfl, hx, rfl⟩
    · cases v <;> simp_all [VR, good, AV.isAgg]

mutual
def AV.st : AV → Bool
  | .undef | .tuple _ => false
  | .agg l => AV.sts l
  | _ => true
def AV.sts : List AV → Bool
  | [] => true
  | v :: r => v.st && AV.sts r
end
mutual
theorem st_one {E : Emb} : ∀ (v : AV) (cs : List Value), v.st = true → VR E v cs → ∀ c ∈ cs, c.oneCell' = true
  | .agg l, cs, hs, h => by simp only [AV.st] at hs; simp only [VR] at h; exact sts_one l cs hs h
  | .iarr k n l, cs, hs, h => by
    simp only [VR] at h; subst h
    intro c hc
    simp at hc
    obtain ⟨_, _, rfl⟩ := hc
    rfl
  | .undef, cs, hs, h => by simp [AV.st] at hs
  | .tuple l, cs, hs, h => by simp [AV.st] at hs
  | .int .., cs, hs, h => by simp only [VR] at h; subst h; simp [Value.oneCell']
  | .bool .., cs, hs, h => by simp only [VR] at h; subst h; simp [Value.oneCell']
  | .str .., cs, hs, h => by simp only [VR] at h; subst h; simp [Value.oneCell']
  | .nilS, cs, hs, h => by simp only [VR] at h; subst h; simp [Value.oneCell']
  | .isl .., cs, hs, h => by simp only [VR] at h; obtain ⟨_, _, rfl, _⟩ := h; simp [Value.oneCell']
  | .dsl .., cs, hs, h => by simp only [VR] at h; obtain ⟨_, _, rfl, _⟩ := h; simp [Value.oneCell']
  | .own .., cs, hs, h => by simp only [VR] at h; obtain ⟨_, _, _, rfl, _⟩ := h; simp [Value.oneCell']
  | .asl .., cs, hs, h => by simp only [VR] at h; obtain ⟨_, _, _, rfl, _⟩ := h; simp [Value.oneCell']
  | .ptr .., cs, hs, h => by simp only [VR] at h; obtain ⟨_, _, _, _, rfl⟩ := h; simp [Value.oneCell']
  | .pix .., cs, hs, h => by simp only [VR] at h; obtain ⟨_, _, _, _, _, rfl⟩ := h; simp [Value.oneCell']
  | .pel .., cs, hs, h => by simp only [VR] at h; obtain ⟨_, _, _, _, rfl⟩ := h; simp [Value.oneCell']
  | .pval .., cs, hs, h => by simp only [VR] at h; obtain ⟨_, _, _, rfl, _⟩ := h; simp [Value.oneCell']
  | .nilP, cs, hs, h => by simp only [VR] at h; subst h; simp [Value.oneCell']
  | .func .., cs, hs, h => by simp only [VR] at h; obtain ⟨_, _, rfl, _⟩ := h; simp [Value.oneCell']
  | .nilF, cs, hs, h => by simp only [VR] at h; subst h; simp [Value.oneCell']
  | .iface .., cs, hs, h => by simp only [VR] at h; obtain ⟨_, rfl, _⟩ := h; simp [Value.oneCell']
  | .nilI, cs, hs, h => by simp only [VR] at h; subst h; simp [Value.oneCell']
  | .map .., cs, hs, h => by simp only [VR] at h; obtain ⟨_, _, _, _, rfl⟩ := h; simp [Value.oneCell']
  | .nilM, cs, hs, h => by simp only [VR] at h; subst h; simp [Value.oneCell']
theorem sts_one {E : Emb} : ∀ (l : List AV) (cs : List Value), AV.sts l = true → VRs E l cs → ∀ c ∈ cs, c.oneCell' = true
  | [], cs, hs, h => by simp [VRs] at h; subst h; simp
  | v :: r, cs, hs, h => by
    simp only [AV.sts, Bool.and_eq_true] at hs
    simp only [VRs] at h
    obtain ⟨c1, c2, rfl, h1, h2⟩ := h
    intro c hc
    rcases List.mem_append.1 hc with hc | hc
    · exact st_one v c1 hs.1 h1 c hc
    · exact sts_one r c2 hs.2 h2 c hc
end
theorem TV_one {E : Emb} {v : AV} {c : Value} (hg : v.st = true) (h : TV E v c) : ∀ x ∈ c.cells.toList, x.oneCell' = true := by
  have hgood : good v = true := by cases v <;> simp_all [AV.st, good]
  have hc := comps_ok hgood h
  refine sts_one (comps v) _ ?_ hc
  cases v <;> simp_all [comps, AV.st, AV.sts]

/-- The shape and the number of cells of a type. -/
def shOf (P : Program) (t : TypeId) : Option (Sh × Nat) :=
  match P.underlying t, P.info? t with
  | some (.array n e), some i => match P.underlying e with
    | some (.int k) => if i.size = n then some (.ia k n, n) else none
    | _ => some (.ag, i.size)
  | some (.struct _), some i => some (.ag, i.size)
  | some _, some i => if i.size = 1 then some (.sc, 1) else none
  | _, _ => none

section
variable {P : Program} {w : World}
theorem shOf_run {t : TypeId} {sh : Sh} {sz : Nat} (h : shOf P t = some (sh, sz)) :
    (isAgg t).run P w = .ok (match sh with | .sc => false | _ => true) w ∧ (Go.sizeOf t).run P w = .ok sz w ∧ (sh = .sc → sz = 1) := by
  unfold shOf at h
  cases hu : P.underlying t with
  | none => rw [hu] at h; simp at h
  | some d =>
    cases hi : P.info? t with
    | none => rw [hu, hi] at h; cases d <;> simp at h
    | some i =>
      rw [hu, hi] at h
      have hsz : (Go.sizeOf t).run P w = .ok i.size w := by simp [Go.sizeOf, typeInfo, hi]
      have hagg : (isAgg t).run P w = .ok (match d with | .struct _ | .array _ _ => true | _ => false) w := by
        unfold isAgg
        rw [Sem.run_bind, run_underlying hu w]
        cases d <;> simp
      rw [hsz, hagg]
      cases d with
      | array n e =>
        simp only at h
        split at h
        · split at h
          · rename_i e; injection h with h; injection h with h1 h2; subst h1; subst h2; exact ⟨rfl, by rw [e], fun h => by cases h⟩
          · cases h
        · injection h with h; injection h with h1 h2; subst h1; subst h2; exact ⟨rfl, rfl, fun h => by cases h⟩
      | struct fs => injection h with h; injection h with h1 h2; subst h1; subst h2; exact ⟨rfl, rfl, fun h => by cases h⟩
      | _ =>
        simp only at h
        split at h
        · rename_i e; injection h with h; injection h with h1 h2; subst h1; subst h2; exact ⟨rfl, by rw [e], fun _ => rfl⟩
        · cases h

theorem ShV_ex (sh : Sh) (cs : List Value) (h : sh = .sc → cs.length = 1) : ∃ c, ShV sh cs c := by
  cases sh with
  | sc =>
    have := h rfl
    match cs, this with
    | [c], _ => exact ⟨c, rfl⟩
  | ag => exact ⟨_, rfl⟩
  | ia k n => exact ⟨_, rfl⟩

theorem run_loadVar {t : TypeId} {sh : Sh} {sz : Nat} (h : shOf P t = some (sh, sz)) {b off : Nat} {cs : List Value} (hl : cs.length = sz)
    (hc : ∀ j v, cs[j]? = some v → w.cell? (pA b (off + j)) = some v) : ∃ c, (loadVar t (pA b off)).run P w = .ok c w ∧ ShV sh cs c := by
  obtain ⟨ha, hs, h1⟩ := shOf_run (w := w) h
  have hlc : (loadCells (pA b off) cs.length).run P w = .ok cs.toArray w :=
    run_loadCells_list w (pA b off) cs (fun j v hv => by rw [pA_add]; exact hc j v hv)
  cases sh with
  | sc =>
    have := h1 rfl
    subst this
    match cs, hl with
    | [c], _ =>
      refine ⟨c, ?_, rfl⟩
      have h0 := hc 0 c rfl
      simp only [loadVar, Sem.run_bind, ha, Result.andThen_ok, Bool.false_eq_true, if_false]
      simp [load, Sem.run] at h0 ⊢
      rw [h0]
  | ag =>
    refine ⟨_, ?_, rfl⟩
    subst hl
    simp [loadVar, Sem.run_bind, ha, hs, hlc]
  | ia k n =>
    refine ⟨_, ?_, rfl⟩
    subst hl
    simp [loadVar, Sem.run_bind, ha, hs, hlc]
end
end AVL
