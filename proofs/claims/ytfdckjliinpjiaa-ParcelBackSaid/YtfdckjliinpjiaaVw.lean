/- Arguments that come in: what is read of them by their types, as abstract values. -/
import Derived.Test.YtfdckjliinpjiaaVy
import Derived.ChangeCalls
import Derived.ChangeSame
import Derived.WalkKit
import Derived.ProofKit
import Derived.OpenShut
import Derived.ChangeOld
namespace AVL
open Go Go.ChangeShapes Go.RowKit
set_option linter.unusedVariables false
set_option linter.unusedSimpArgs false

inductive ATy where
  | int (k : IntKind)
  | bool
  | str
  | isl (k : IntKind)
  | dsl (sz : Nat) (e : ATy)
  | iarr (k : IntKind) (n : Nat)
  | agg (l : List ATy)
mutual
def ATy.has : ATy → AV → Prop
  | .int k, v => ∃ n, v = .int k n ∧ (Lit.int k n).wf = true
  | .bool, v => ∃ b, v = .bool b
  | .str, v => ∃ s : ByteArray, v = .str s ∧ s.size ≤ maxLen
  | .isl k, v => ∃ l, v = .isl k l ∧ l.length ≤ maxLen ∧ ∀ n ∈ l, (Lit.int k n).wf = true
  | .dsl sz e, v => ∃ l, v = .dsl sz l ∧ l.length ≤ maxLen ∧ ∀ x ∈ l, ATy.has e x
  | .iarr k n, v => ∃ l, v = .iarr k n l ∧ l.length = n ∧ ∀ n ∈ l, (Lit.int k n).wf = true
  | .agg ts, v => ∃ l, v = .agg l ∧ ATy.hasL ts l
def ATy.hasL : List ATy → List AV → Prop
  | [], vs => vs = []
  | t :: ts, vs => ∃ v r, vs = v :: r ∧ ATy.has t v ∧ ATy.hasL ts r
end
def ATy.flat : ATy → List ATy
  | .agg l => l
  | t => [t]
def ATy.isAgg : ATy → Bool
  | .agg _ | .iarr .. => true
  | _ => false
/-- The fields of a struct, one behind the other. -/
def fieldsTy (P : Program) (ty : TypeId → Option ATy) : List Field → Nat → Option (List ATy × Nat)
  | [], o => some ([], o)
  | f :: r, o => if f.offset = o then match ty f.type, fieldsTy P ty r (o + P.cellsOf f.type) with
      | some t, some (ts, e) => some (t.flat ++ ts, e)
      | _, _ => none
    else none
def rep (t : ATy) : Nat → List ATy
  | 0 => []
  | n + 1 => t.flat ++ rep t n
def tyOf (P : Program) : Nat → TypeId → Option ATy
  | 0, _ => none
  | n + 1, t => match P.underlying t with
    | some (.int k) => some (.int k)
    | some .bool => some .bool
    | some .string => some .str
    | some (.slice e) => match P.underlying e with
      | some (.int k) => if P.cellsOf e = 1 then some (.isl k) else none
      | _ => if 0 < P.cellsOf e then (tyOf P n e).map (ATy.dsl (P.cellsOf e)) else none
    | some (.struct fs) => match fieldsTy P (tyOf P n) fs.toList 0 with
      | some (ts, e) => if e = P.cellsOf t then some (.agg ts) else none
      | none => none
    | some (.array m e) => match P.underlying e with
      | some (.int k) => if P.cellsOf e = 1 ∧ P.cellsOf t = m then some (.iarr k m) else none
      | _ => if P.cellsOf t = m * P.cellsOf e then (tyOf P n e).map fun τ => .agg (rep τ m) else none
    | _ => none

theorem has_flat {t : ATy} {v : AV} (h : t.has v) : ATy.hasL t.flat (comps v) := by
  have h' := h
  cases t <;> simp only [ATy.has] at h'
  case agg l => obtain ⟨l', rfl, h'⟩ := h'; exact h'
  case bool => obtain ⟨b, rfl⟩ := h'; simp only [ATy.flat, comps, ATy.hasL]; exact ⟨_, _, rfl, h, rfl⟩
  all_goals
    obtain ⟨x, rfl, h'⟩ := h'
    simp only [ATy.flat, comps, ATy.hasL]
    exact ⟨_, _, rfl, h, rfl⟩
theorem hasL_append : ∀ {ts : List ATy} {us : List ATy} {vs ws : List AV}, ATy.hasL ts vs → ATy.hasL us ws → ATy.hasL (ts ++ us) (vs ++ ws)
  | [], us, vs, ws, h, h' => by simp only [ATy.hasL] at h; subst h; simpa using h'
  | t :: ts, us, vs, ws, h, h' => by
    simp only [ATy.hasL] at h
    obtain ⟨v, r, rfl, h1, h2⟩ := h
    simp only [List.cons_append, ATy.hasL]
    exact ⟨v, r ++ ws, rfl, h1, hasL_append h2 h'⟩

section
variable {H : Type} {enc : TypeId × Value → H} {P : Program} {w : World} {base : Nat} {spare : Nat → Bool} {held : Bool}
theorem mapM_cons_some {α β : Type} {f : α → Option β} {a : α} {l : List α} {ys : List β} (h : (a :: l).mapM f = some ys) : ∃ y r, ys = y :: r ∧ f a = some y ∧ l.mapM f = some r := by
  rw [List.mapM_cons] at h
  cases h1 : f a with
  | none => rw [h1] at h; cases h
  | some y =>
    rw [h1] at h
    cases h2 : l.mapM f with
    | none => rw [h2] at h; cases h
    | some r => rw [h2] at h; injection h with h; exact ⟨y, r, h.symm, rfl, rfl⟩
theorem mapM_get {α β : Type} {f : α → Option β} : ∀ {l : List α} {ys : List β}, l.mapM f = some ys → ∀ a ∈ l, ∃ y, f a = some y
  | [], _, _, a, ha => by cases ha
  | b :: l, ys, h, a, ha => by
    obtain ⟨y, r, rfl, h1, h2⟩ := mapM_cons_some h
    rcases List.mem_cons.1 ha with rfl | ha
    · exact ⟨y, h1⟩
    · exact mapM_get h2 a ha
/-- What one type is read as. -/
def ReadsT (P : Program) (w : World) (ty : TypeId → Option ATy) (r : TypeId → List Value → Option (DataW H × List MemPlace)) : Prop :=
  ∀ t cs x τ, r t cs = some x → ty t = some τ → ∃ v, VR (E0 w) v cs ∧ τ.has v

theorem fields_ok {ty : TypeId → Option ATy} {r : TypeId → List Value → Option (DataW H × List MemPlace)} (hr : ReadsT P w ty r) : ∀ (fs : List Field) (o : Nat) (cs : List Value) (xs : List (DataW H × List MemPlace)) (ts : List ATy) (e : Nat),
    fs.mapM (fun f => r f.type ((cs.drop f.offset).take (P.cellsOf f.type))) = some xs → fieldsTy P ty fs o = some (ts, e) → cs.length = e → ∃ vs, VRs (E0 w) vs (cs.drop o) ∧ ATy.hasL ts vs
  | [], o, cs, xs, ts, e, h, ht, hl => by
    simp only [fieldsTy] at ht; injection ht with ht; injection ht with h1 h2; subst h1; subst h2
    refine ⟨[], ?_, rfl⟩
    simp only [VRs]
    rw [List.drop_of_length_le (by omega)]
  | f :: fs, o, cs, xs, ts, e, h, ht, hl => by
    simp only [fieldsTy] at ht
    split at ht
    · rename_i ho
      split at ht
      · rename_i t ts' e' h1 h2
        injection ht with ht; injection ht with e1 e2; subst e1; subst e2
        obtain ⟨y, r', rfl, h3, h4⟩ := mapM_cons_some h
        obtain ⟨v, hv, hh⟩ := hr _ _ _ _ h3 h1
        obtain ⟨vs, hvs, hhs⟩ := fields_ok hr fs _ cs r' ts' e' h4 h2 hl
        rw [ho] at hv
        refine ⟨comps v ++ vs, ?_, hasL_append (has_flat hh) hhs⟩
        have := VRs_append _ _ _ _ (VR_comps hv) hvs
        rw [← List.drop_drop, List.take_append_drop] at this
        exact this
      · cases ht
    · cases ht
theorem chunks_ok {sz : Nat} {τ : ATy} : ∀ (m : Nat) (cs : List Value), cs.length = m * sz → (∀ i, i < m → ∃ v, VR (E0 w) v ((cs.drop (i * sz)).take sz) ∧ τ.has v) → ∃ vs, VRs (E0 w) vs cs ∧ ATy.hasL (rep τ m) vs
  | 0, cs, hl, _ => by
    have : cs = [] := List.eq_nil_of_length_eq_zero (by omega)
    exact ⟨[], by simp only [VRs]; exact this, rfl⟩
  | m + 1, cs, hl, h => by
    obtain ⟨v, hv, hh⟩ := h 0 (by omega)
    rw [Nat.zero_mul, List.drop_zero] at hv
    have hl2 : (cs.drop sz).length = m * sz := by rw [List.length_drop, hl, Nat.add_mul, Nat.one_mul]; omega
    obtain ⟨vs, hvs, hhs⟩ := chunks_ok m (cs.drop sz) hl2 fun i hi => by
      have := h (i + 1) (by omega)
      rw [List.drop_drop]
      rwa [Nat.add_mul, Nat.one_mul, Nat.add_comm] at this
    refine ⟨comps v ++ vs, ?_, hasL_append (has_flat hh) hhs⟩
    have := VRs_append _ _ _ _ (VR_comps hv) hvs
    rwa [List.take_append_drop] at this
theorem E0_cell {b o : Nat} {v : Value} (h : w.cell? (pA b o) = some v) : (E0 w).cell b o = some v := by
  unfold World.cell? pA at h
  simp only [Emb.cell, E0]
  split at h
  · rename_i c _ _ hb
    simp only [hb]
    simpa using h
  · cases h
theorem cell_spot {a : Addr} {v : Value} (h : w.cell? a = some v) : a.spot = none := by
  unfold World.cell? at h
  split at h
  · split at h
    · cases h
    · rename_i hs; cases hsp : a.spot <;> simp_all
  · cases h
theorem chain_ok {b off sz : Nat} {τ : ATy} {n : Nat} (h : ∀ i, i < n → ∃ cs v, cs.length = sz ∧ (∀ j, j < sz → (E0 w).cell b (off + i * sz + j) = cs[j]?) ∧ VR (E0 w) v cs ∧ τ.has v) : ∀ (k i : Nat), i + k = n → ∃ l, l.length = k ∧ (∀ x ∈ l, τ.has x) ∧ SR (E0 w) b sz (off + i * sz) l
  | 0, i, _ => ⟨[], rfl, by simp, by simp only [SR]⟩
  | k + 1, i, hi => by
    obtain ⟨l, h1, h2, h3⟩ := chain_ok h k (i + 1) (by omega)
    obtain ⟨cs, v, h4, h5, h6, h7⟩ := h i (by omega)
    refine ⟨v :: l, by simp [h1], ?_, ?_⟩
    · intro x hx
      rcases List.mem_cons.1 hx with rfl | hx
      · exact h7
      · exact h2 x hx
    · simp only [SR]
      refine ⟨⟨cs, h4, h5, h6⟩, ?_⟩
      rw [Nat.add_mul, Nat.one_mul, ← Nat.add_assoc] at h3
      exact h3
theorem row_cellsT {a : Addr} {sz len : Nat} {e : TypeId} {ty : ATy} {r : TypeId → List Value → Option (DataW H × List MemPlace)} {ys : List (DataW H × List MemPlace)} (hsz : 0 < sz) (hl : ys.length = len) (hlen : 0 < len)
    (hr : ∀ cs x, r e cs = some x → ∃ v, VR (E0 w) v cs ∧ ty.has v)
    (h : ∀ i, i < len → (w.cells? 0 (a.add (i * sz)) sz).bind (r e) = ys[i]?) :
    ∃ b off, a = pA b off ∧ ∀ i, i < len → ∃ cs v, cs.length = sz ∧ (∀ j, j < sz → (E0 w).cell b (off + i * sz + j) = cs[j]?) ∧ VR (E0 w) v cs ∧ ty.has v := by
  have get : ∀ i, i < len → ∃ cs y, w.cells? 0 (a.add (i * sz)) sz = some cs ∧ r e cs = some y := fun i hi => by
    have h1 := h i hi
    rw [List.getElem?_eq_getElem (by omega), Option.bind_eq_some_iff] at h1
    obtain ⟨cs, h2, h3⟩ := h1
    exact ⟨cs, _, h2, h3⟩
  have hs : a.spot = none := by
    obtain ⟨cs, y, h1, _⟩ := get 0 hlen
    obtain ⟨_, h2, h3⟩ := World.cells?_some h1
    have h4 := h3 0 hsz
    rw [List.getElem?_eq_getElem (by omega)] at h4
    have h5 := cell_spot h4
    simpa [Addr.add] using h5
  obtain ⟨b, off, sp⟩ := a
  simp only at hs; subst hs
  refine ⟨b, off, rfl, fun i hi => ?_⟩
  obtain ⟨cs, y, h1, h2⟩ := get i hi
  obtain ⟨_, h3, h4⟩ := World.cells?_some h1
  obtain ⟨v, h5, h6⟩ := hr _ _ h2
  refine ⟨cs, v, h3, fun j hj => ?_, h5, h6⟩
  have h7 := h4 j hj
  rw [show (Addr.mk b off none) = pA b off from rfl, pA_add, pA_add, List.getElem?_eq_getElem (by omega)] at h7
  rw [List.getElem?_eq_getElem (by omega)]
  exact E0_cell h7
theorem reads_ok : ∀ (n fuel : Nat), ReadsT P w (tyOf P n) (DataW.trod enc P w 0 (fun _ => true) held fuel)
  | 0, fuel, t, cs, x, τ, h, ht => by simp [tyOf] at ht
  | n + 1, fuel, t, cs, x, τ, h, ht => by
    unfold tyOf at ht
    split at ht
    · rename_i k hu
      injection ht with ht; subst ht
      obtain ⟨m, rfl, _, hw⟩ := DataW.trod_int hu h
      exact ⟨.int k m, by simp only [VR], by simp only [ATy.has]; exact ⟨m, rfl, hw⟩⟩
    · rename_i hu
      injection ht with ht; subst ht
      obtain ⟨b, rfl, _⟩ := DataW.trod_bool hu h
      exact ⟨.bool b, by simp only [VR], by simp only [ATy.has]; exact ⟨b, rfl⟩⟩
    · rename_i hu
      injection ht with ht; subst ht
      obtain ⟨s, rfl, _, hs⟩ := DataW.trod_string hu h
      exact ⟨.str s, by simp only [VR], by simp only [ATy.has]; exact ⟨s, rfl, hs⟩⟩
    · rename_i e hu
      split at ht
      · rename_i k he
        split at ht
        · rename_i h1
          injection ht with ht; subst ht
          rcases open_ints hu he h1 h with ⟨rfl, _⟩ | ⟨a, len, cap, zs, rfl, _, hl, hm, hz, _, hcell, hwz⟩
          · refine ⟨.isl k [], ?_, ?_⟩
            · simp only [VR]; exact ⟨none, 0, rfl, Nat.le_refl _, fun h => by simp at h⟩
            · simp only [ATy.has]; exact ⟨[], rfl, by simp, by simp⟩
          · obtain ⟨hT, hlen, hwf⟩ := row_in (k := k) (w := w) (a := some a) (len := len) (cap := cap) (zs := zs) (.inr ⟨a, rfl, hl, hm, by simpa using hz, hcell, hwz⟩)
            rcases hT with ⟨hx, _⟩ | ⟨_, hT⟩
            · cases hx
            · exact ⟨_, hT, by simp only [ATy.has]; exact ⟨_, rfl, hlen, hwf⟩⟩
        · cases ht
      · split at ht
        · rename_i hsz
          cases he : tyOf P n e with
          | none => rw [he] at ht; cases ht
          | some τe =>
            rw [he] at ht; injection ht with ht; subst ht
            rcases DataW.trod_slice hu h with ⟨rfl, _⟩ | ⟨a, len, cap, elems, rest, m, _, rfl, _, hb, hl, hm, hlen, hel, _, _⟩
            · refine ⟨.dsl (P.cellsOf e) [], ?_, ?_⟩
              · simp only [VR]; exact ⟨none, 0, rfl, Nat.le_refl _, fun h => by simp at h⟩
              · simp only [ATy.has]; exact ⟨[], rfl, by simp, by simp⟩
            · rcases Nat.eq_zero_or_pos len with h0 | hp
              · subst h0
                refine ⟨.dsl (P.cellsOf e) [], ?_, ?_⟩
                · simp only [VR]; exact ⟨some a, cap, rfl, Nat.zero_le _, fun h => by simp at h⟩
                · simp only [ATy.has]; exact ⟨[], rfl, by simp, by simp⟩
              · obtain ⟨b, off, rfl, hall⟩ := row_cellsT hsz hlen hp (fun cs x hx => reads_ok n m e cs x τe hx he) hel
                obtain ⟨l, h1, h2, h3⟩ := chain_ok hall len 0 (by omega)
                rw [Nat.zero_mul, Nat.add_zero] at h3
                refine ⟨.dsl (P.cellsOf e) l, ?_, ?_⟩
                · simp only [VR]; exact ⟨some (pA b off), cap, by rw [h1], by omega, fun _ => ⟨b, off, rfl, h3⟩⟩
                · simp only [ATy.has]; exact ⟨l, rfl, by omega, h2⟩
        · cases ht
    · rename_i fs hu
      split at ht
      · rename_i ts e hf
        split at ht
        · rename_i hee
          injection ht with ht; subst ht
          cases fuel with
          | zero => simp [DataW.trod] at h
          | succ m =>
            unfold DataW.trod at h
            rw [hu] at h
            simp only at h
            split at h
            · rename_i hlen
              cases hm : (fs.toList.mapM fun f => DataW.trod enc P w 0 (fun _ => true) held m f.type ((cs.drop f.offset).take (P.cellsOf f.type))) with
              | none => rw [hm] at h; cases h
              | some xs =>
                obtain ⟨vs, h1, h2⟩ := fields_ok (reads_ok n m) fs.toList 0 cs xs ts e hm hf (by omega)
                rw [List.drop_zero] at h1
                exact ⟨.agg vs, by unfold VR; exact h1, by simp only [ATy.has]; exact ⟨vs, rfl, h2⟩⟩
            · cases h
        · cases ht
      · cases ht
    · rename_i m e hu
      cases fuel with
      | zero => simp [DataW.trod] at h
      | succ fu =>
        unfold DataW.trod at h
        rw [hu] at h
        simp only at h
        split at h
        · rename_i hlen
          cases hm : ((List.range m).mapM fun i => DataW.trod enc P w 0 (fun _ => true) held fu e ((cs.drop (i * P.cellsOf e)).take (P.cellsOf e))) with
          | none => rw [hm] at h; cases h
          | some xs =>
            have each : ∀ i, i < m → ∃ y, DataW.trod enc P w 0 (fun _ => true) held fu e ((cs.drop (i * P.cellsOf e)).take (P.cellsOf e)) = some y := fun i hi => mapM_get hm i (by simp [hi])
            split at ht
            · rename_i k he
              split at ht
              · rename_i hc
                injection ht with ht; subst ht
                rw [hc.1] at each
                have each2 : ∀ i, i < m → ∃ z, cs[i]? = some (.int k z) ∧ (Lit.int k z).wf = true := fun i hi => by
                  obtain ⟨y, hy⟩ := each i hi
                  obtain ⟨z, h1, _, h2⟩ := DataW.trod_int he hy
                  refine ⟨z, ?_, h2⟩
                  have : ((cs.drop (i * 1)).take 1)[0]? = some (.int k z) := by rw [h1]; rfl
                  simpa [List.getElem?_take, List.getElem?_drop] using this
                obtain ⟨l, hl⟩ : ∃ l, l = cs.map fun v => match v with | .int _ n => n | _ => 0 := ⟨_, rfl⟩
                have hll : l.length = m := by rw [hl, List.length_map]; omega
                have lg : ∀ i z, i < m → cs[i]? = some (.int k z) → l[i]? = some z := fun i z hi hz => by rw [hl, List.getElem?_map, hz]; rfl
                refine ⟨.iarr k m l, ?_, ?_⟩
                · simp only [VR]
                  apply List.ext_getElem?
                  intro i
                  by_cases hi : i < m
                  · obtain ⟨z, hz, _⟩ := each2 i hi
                    rw [hz, List.getElem?_map, List.getElem?_range hi]
                    simp [List.getD_eq_getElem?_getD, lg i z hi hz]
                  · rw [List.getElem?_eq_none (by omega), List.getElem?_eq_none (by simp; omega)]
                · simp only [ATy.has]
                  refine ⟨l, rfl, hll, fun z hz => ?_⟩
                  obtain ⟨i, hi, he'⟩ := List.mem_iff_getElem.1 hz
                  obtain ⟨z', hz', hw⟩ := each2 i (by omega)
                  have := lg i z' (by omega) hz'
                  rw [List.getElem?_eq_getElem hi, he'] at this
                  injection this with this; subst this; exact hw
              · cases ht
            · split at ht
              · rename_i hc
                cases he : tyOf P n e with
                | none => rw [he] at ht; cases ht
                | some τe =>
                  rw [he] at ht; injection ht with ht; subst ht
                  obtain ⟨vs, h1, h2⟩ := chunks_ok (w := w) (sz := P.cellsOf e) (τ := τe) m cs (by omega) fun i hi => by
                    obtain ⟨y, hy⟩ := each i hi
                    exact reads_ok n fu e _ _ τe hy he
                  exact ⟨.agg vs, by unfold VR; exact h1, by simp only [ATy.has]; exact ⟨vs, rfl, h2⟩⟩
              · cases ht
        · cases h
    · cases ht
theorem has_isAgg {τ : ATy} {v : AV} (h : τ.has v) : v.isAgg = τ.isAgg := by
  cases τ <;> simp only [ATy.has] at h
  case bool => obtain ⟨b, rfl⟩ := h; rfl
  all_goals
    obtain ⟨x, rfl, _⟩ := h
    rfl
theorem cell_one {t : TypeId} {v : Value} (hn : ∀ cs, v ≠ .agg cs) : v.cells = #[v] := by
  cases v <;> first
    | rfl
    | exact absurd rfl (hn _)
theorem okWide_shape {n : Nat} {t : TypeId} {v : Value} {τ : ATy} {r : Reach} (h : Value.okWide P w r base t v) (ht : tyOf P n t = some τ) : (τ.isAgg = true ∧ ∃ cs, v = .agg cs) ∨ (τ.isAgg = false ∧ v.cells = #[v]) := by
  cases n with
  | zero => simp [tyOf] at ht
  | succ n =>
    unfold tyOf at ht
    split at ht
    · rename_i k hu
      injection ht with ht; subst ht
      refine .inr ⟨rfl, cell_one (t := t) fun cs e => ?_⟩
      subst e
      simp [Value.okWide, hu, Cell.okWide, Cell.ok] at h
    · rename_i hu
      injection ht with ht; subst ht
      refine .inr ⟨rfl, cell_one (t := t) fun cs e => ?_⟩
      subst e
      simp [Value.okWide, hu, Cell.okWide, Cell.ok] at h
    · rename_i hu
      injection ht with ht; subst ht
      refine .inr ⟨rfl, cell_one (t := t) fun cs e => ?_⟩
      subst e
      simp [Value.okWide, hu, Cell.okWide, Cell.ok] at h
    · rename_i e hu
      have hv : v.cells = #[v] := cell_one (t := t) fun cs e => by
        subst e
        simp [Value.okWide, hu, Cell.okWide, Cell.ok] at h
      split at ht
      · split at ht
        · injection ht with ht; subst ht; exact .inr ⟨rfl, hv⟩
        · cases ht
      · split at ht
        · cases he : tyOf P n e with
          | none => rw [he] at ht; cases ht
          | some τe => rw [he] at ht; injection ht with ht; subst ht; exact .inr ⟨rfl, hv⟩
        · cases ht
    · rename_i fs hu
      simp only [Value.okWide, hu] at h
      obtain ⟨cs, hv, _⟩ := h
      split at ht
      · split at ht
        · injection ht with ht; subst ht; exact .inl ⟨rfl, cs, hv⟩
        · cases ht
      · cases ht
    · rename_i m e hu
      simp only [Value.okWide, hu] at h
      obtain ⟨cs, hv, _⟩ := h
      split at ht
      · split at ht
        · injection ht with ht; subst ht; exact .inl ⟨rfl, cs, hv⟩
        · cases ht
      · split at ht
        · cases he : tyOf P n e with
          | none => rw [he] at ht; cases ht
          | some τe => rw [he] at ht; injection ht with ht; subst ht; exact .inl ⟨rfl, cs, hv⟩
        · cases ht
    · cases ht
theorem args_ok {n : Nat} {r : Reach} {b0 : Nat} : ∀ {ts : List TypeId} {vs : List Value} {ds : List (DataW H)} {ps : List MemPlace} {τs : List ATy}, DataW.TrodAll enc P w 0 (fun _ => true) held ts vs ds ps →
    (∀ (j : Nat) (t : TypeId) (v : Value), ts[j]? = some t → vs[j]? = some v → Value.okWide P w r b0 t v) → ts.mapM (tyOf P n) = some τs → ∃ avs, TVl (E0 w) avs vs ∧ ATy.hasL τs avs
  | [], vs, ds, ps, τs, h, _, ht => by
    obtain ⟨rfl, rfl, rfl⟩ := trodAll_nil h
    injection ht with ht; subst ht
    exact ⟨[], TVl_nil.2 rfl, rfl⟩
  | t :: ts, vs, ds, ps, τs, h, hv, ht => by
    obtain ⟨v, vs1, d, ds1, a, b, rfl, rfl, rfl, h1, h2⟩ := trodAll_cons h
    obtain ⟨τ, τr, rfl, h3, h4⟩ := mapM_cons_some ht
    obtain ⟨avs, h5, h6⟩ := args_ok h2 (fun j t' v' h7 h8 => hv (j + 1) t' v' (by simpa using h7) (by simpa using h8)) h4
    obtain ⟨fuel, hf⟩ := h1
    obtain ⟨av, h7, h8⟩ := reads_ok n fuel t _ _ τ hf h3
    refine ⟨av :: avs, TVl_cons.2 ⟨v, vs1, rfl, ?_, h5⟩, by simp only [ATy.hasL]; exact ⟨av, avs, rfl, h8, h6⟩⟩
    rcases okWide_shape (hv 0 t v rfl rfl) h3 with ⟨h9, cs, rfl⟩ | ⟨h9, hc⟩
    · refine .inl ⟨by rw [has_isAgg h8, h9], cs.toList, ?_, by simp⟩
      exact h7
    · refine .inr ⟨by rw [has_isAgg h8, h9], ?_⟩
      rw [hc] at h7
      exact h7
theorem all_below {W W' : World} (hl : laidOutB P = true) (bel : Bel W W') : ∀ {ts : List TypeId} {vs : List Value} {ds : List (DataW H)} {ps : List MemPlace}, (ts.all fun t => P.readableRec t && decide (t < P.types.size)) = true →
    DataW.TrodAll enc P W 0 (fun _ => true) true ts vs ds ps → DataW.TrodAll enc P W' 0 (fun b => decide (b < W.heap.size)) true ts vs ds ps
  | [], vs, ds, ps, _, h => by
    obtain ⟨rfl, rfl, rfl⟩ := trodAll_nil h
    exact trodAll_mk0
  | t :: ts, vs, ds, ps, hh, h => by
    obtain ⟨v, vs1, d, ds1, a, b, rfl, rfl, rfl, h1, h2⟩ := trodAll_cons h
    simp only [List.all_cons, Bool.and_eq_true, decide_eq_true_eq] at hh
    have hlt : ∀ x ∈ a, x.block < W.heap.size := by obtain ⟨m, hm⟩ := h1; exact DataW.trod_lt m _ _ _ hm
    exact trodAll_cons_mk (Bel.trod hl hh.1.1 hh.1.2 h1 bel hlt) (all_below hl bel hh.2 h2)
/-- A law's walk, of whatever arguments of these types. -/
theorem law_args {f : FuncId} {n : Nat} {r : Reach} {b0 : Nat} {ts : List TypeId} {args : Array Value} {ds : List (DataW H)} {ps : List MemPlace} {τs : List ATy} (hA : DataW.TrodAll enc P w 0 (fun _ => true) held ts args.toList ds ps)
    (hval : ∀ (j : Nat) (t : TypeId) (v : Value), ts.toArray[j]? = some t → args[j]? = some v → Value.okWide P w r b0 t v) (ht : ts.mapM (tyOf P n) = some τs)
    (h : ∀ avs, ATy.hasL τs avs → SimX P f avs (fun _ => none) (fun o _ => o = .ret (.bool true))) :
    Calls P f args w fun e w' => e = .returned (.bool true) ∧ Bel w w' := by
  obtain ⟨avs, h1, h2⟩ := args_ok (n := n) (τs := τs) hA (fun j t v h1 h2 => hval j t v (by simpa using h1) (by simpa using h2)) ht
  exact law_ok h1 (h avs h2)
end
end AVL
