/- Structs, arrays and slices written out; addresses of fields and elements; parts of values. -/
import Derived.Test.YtfdckjliinpjiaaVf
namespace AVL
open Go
set_option linter.unusedSimpArgs false
set_option linter.unusedVariables false

theorem foldl_set : ∀ (vs : List Value) (i off : Nat) (cs : Array Value), off + i + vs.length ≤ cs.size →
    ((vs.zipIdx i).foldl (fun cs (x : Value × Nat) => cs.setIfInBounds (off + x.2) x.1) cs) = (cs.toList.take (off + i) ++ vs ++ cs.toList.drop (off + i + vs.length)).toArray
  | [], i, off, cs, h => by simp
  | v :: r, i, off, cs, h => by
    simp only [List.zipIdx_cons, List.foldl_cons, List.length_cons] at h ⊢
    rw [foldl_set r (i + 1) off _ (by simp; omega)]
    congr 1
    apply List.ext_getElem?
    intro q
    have e1 := seg_get (cs.setIfInBounds (off + i) v).toList r (off + (i + 1)) (by simp; omega) q
    have e2 := seg_get cs.toList (v :: r) (off + i) (by simp; omega) q
    simp only [List.length_cons] at e2
    rw [e1, e2]
    by_cases h1 : off + (i + 1) ≤ q ∧ q < off + (i + 1) + r.length
    · rw [if_pos h1, if_pos (by omega)]
      rw [show q - (off + i) = (q - (off + (i + 1))) + 1 by omega, List.getElem?_cons_succ]
    · rw [if_neg h1]
      by_cases h2 : q = off + i
      · subst h2
        rw [if_pos (by omega), Nat.sub_self]
        simp [show off + i < cs.size by omega]
      · rw [if_neg (by omega)]
        simp [Array.getElem?_setIfInBounds, show ¬ off + i = q by omega]

theorem fill_cons {place : Nat → Option (Nat × Nat)} {cells : Array Value} {i : Nat} {v : Value} {r : List (Nat × Value)} {off sz : Nat} (hp : place i = some (off, sz))
    (hv : v.cells.size = sz) (hl : off + sz ≤ cells.size) :
    Instr.fill place cells ((i, v) :: r) = Instr.fill place (cells.toList.take off ++ (v.cells.toList ++ cells.toList.drop (off + sz))).toArray r := by
  have e := foldl_set v.cells.toList 0 off cells (by simpa [hv] using hl)
  simp only [Nat.add_zero, Array.length_toList, hv, List.append_assoc] at e
  simp only [Instr.fill, hp]
  rw [if_neg (by simp [hv]; omega)]
  congr 1
  rw [← e, ← Array.foldl_toList]
  simp [Array.toList_zipIdx]

def foldP (env : AEnv) : List AV → List (Nat × Nat × AO) → Option (List AV)
  | l, [] => some l
  | l, (o, s, x) :: r => if good (ev env x) = true ∧ AV.sizes (comps (ev env x)) = s then
      match setC l o s (comps (ev env x)) with
      | some l' => foldP env l' r
      | none => none
    else none

/-- Where the parts of a type lie: their offsets and numbers of cells. -/
def placesOf (P : Program) (t : TypeId) : Option (Nat → Option (Nat × Nat)) :=
  match P.underlying t with
  | some (.struct fs) => some fun i => match fs[i]? with
    | some f => (P.info? f.type).map fun j => (f.offset, j.size)
    | none => none
  | some (.array _ e) => match P.info? e with
    | some j => some fun i => some (i * j.size, j.size)
    | none => none
  | _ => none
def trParts (pl : Nat → Option (Nat × Nat)) : List (Nat × Operand) → Option (List (Nat × Nat × AO))
  | [] => some []
  | (i, x) :: r => match pl i, trO x, trParts pl r with
    | some (o, s), some ax, some l => some ((o, s, ax) :: l)
    | _, _, _ => none
theorem foldP_ok {E : Emb} {env : AEnv} {a : Act} (he : EnvR E env a) {place : Nat → Option (Nat × Nat)} : ∀ (ps : List (Nat × Operand)) (qs : List (Nat × Nat × AO)) (l l' : List AV) (cells : Array Value),
    trParts place ps = some qs → VRs E l cells.toList → foldP env l qs = some l' →
    ∃ cells', Instr.fill place cells (ps.map fun p => (p.1, a.eval p.2)) = some cells' ∧ VRs E l' cells'.toList
  | [], qs, l, l', cells, hq, hv, h => by
    simp only [trParts] at hq; injection hq with hq; subst hq
    simp only [foldP] at h; injection h with h; subst h; exact ⟨cells, rfl, hv⟩
  | (i, x) :: ps, qs, l, l', cells, hq, hv, h => by
    simp only [trParts] at hq
    split at hq
    · rename_i o s ax qs' hp hx hr
      injection hq with hq; subst hq
      simp only [foldP] at h
      split at h
      · rename_i hg
        split at h
        · rename_i l2 hset
          have hc := comps_ok hg.1 (ev_ok he hx)
          have hlen := VRs_len _ _ hc
          rw [hg.2] at hlen
          obtain ⟨hnew, hle⟩ := setC_ok hv hc hset
          simp only [List.map_cons]
          rw [fill_cons hp (by simpa using hlen) (by simpa using hle)]
          exact foldP_ok he ps qs' l2 l' _ hr (by simpa using hnew) h
        · cases h
      · cases h
    · cases hq

section
variable {P : Program} {w : World} {E : Emb} {A : Heap} {K : AV → Heap → Prop}
def abuild (sh : Sh) (z : List AV) (qs : List (Nat × Nat × AO)) (env : AEnv) (A : Heap) (K : AV → Heap → Prop) : Prop :=
  match foldP env z qs with
  | some l => match shp sh l with
    | some v => K v A
    | none => False
  | none => False
theorem allSized {fs : Array Field} (h : ∀ f ∈ fs, (P.info? f.type).isSome = true) :
    (fs.mapM fun f => (do pure (f.offset, ← Go.sizeOf f.type) : Sem (Nat × Nat))).run P w = .ok (fs.map fun f => (f.offset, P.cellsOf f.type)) w := by
  rw [Array.mapM_eq_mapM_toList]
  have key : ∀ (l : List Field), (∀ f ∈ l, (P.info? f.type).isSome = true) → (l.mapM fun f => (do pure (f.offset, ← Go.sizeOf f.type) : Sem (Nat × Nat))).run P w = .ok (l.map fun f => (f.offset, P.cellsOf f.type)) w := by
    intro l
    induction l with
    | nil => intro _; rfl
    | cons f r ih =>
      intro hh
      obtain ⟨i, hi⟩ := Option.isSome_iff_exists.1 (hh f (by simp))
      have hs : (Go.sizeOf f.type).run P w = .ok (P.cellsOf f.type) w := by simp [Go.sizeOf, typeInfo, hi, Program.cellsOf]
      simp only [List.mapM_cons, Sem.run_bind, hs, Result.andThen_ok, Sem.run_pure, ih (fun g hg => hh g (by simp [hg])), List.map_cons]
  have := key fs.toList (fun f hf => h f (by simpa using hf))
  show ((fs.toList.mapM fun f => (do pure (f.offset, ← Go.sizeOf f.type) : Sem (Nat × Nat))) >>= (pure ∘ List.toArray)).run P w = _
  rw [Sem.run_bind, this]
  show Result.ok (List.map (fun f => (f.offset, P.cellsOf f.type)) fs.toList).toArray w = _
  congr 1
  apply Array.toList_inj.1
  simp
/-- The fields' types are known. -/
def sizedT (P : Program) (t : TypeId) : Bool := match P.underlying t with
  | some (.struct fs) => fs.all fun (f : Field) => (P.info? f.type).isSome
  | _ => true
theorem build_ok {t : TypeId} {sh : Sh} {sz : Nat} {z : List AV} {pl : Nat → Option (Nat × Nat)} {ps : Array (Nat × Operand)} {qs : List (Nat × Nat × AO)} {env : AEnv} {a : Act}
    (hR : Rep E A w) (he : EnvR E env a) (hs : shOf P t = some (sh, sz)) (hsh : sh ≠ .sc) (hz : zeroOf P t = some z) (hpl : placesOf P t = some pl)
    (hall : sizedT P t = true)
    (hq : trParts pl ps.toList = some qs) (h : abuild sh z qs env A K) :
    ResV E A w K ((do pure (Next.value (← Instr.build t (ps.map fun (i, x) => (i, a.eval x)))) : Sem Next).run P w) := by
  obtain ⟨zv, hzr, hzv⟩ := zeroOf_ok (w := w) (E := E) hz
  unfold abuild at h
  split at h
  · rename_i l hl
    split at h
    · rename_i v hv
      obtain ⟨cells', hfill, hvr⟩ := foldP_ok he (place := pl) ps.toList qs z l zv.cells hq hzv hl
      have hShV : ShV sh cells'.toList (.agg cells') := by
        cases sh with
        | sc => exact absurd rfl hsh
        | ag => simp [ShV]
        | ia k n => simp [ShV]
      have hrun : (Instr.build t (ps.map fun (i, x) => (i, a.eval x))).run P w = .ok (.agg cells') w := by
        unfold placesOf at hpl
        unfold Instr.build
        simp only [Sem.run_bind, hzr, Result.andThen_ok]
        cases hu : P.underlying t with
        | none => rw [hu] at hpl; cases hpl
        | some d =>
          unfold sizedT at hall
          rw [hu] at hpl hall
          rw [run_underlying hu w]
          cases d <;> simp only at hpl <;> try (cases hpl; done)
          case array n e =>
            cases hi : P.info? e with
            | none => rw [hi] at hpl; cases hpl
            | some j =>
              rw [hi] at hpl
              injection hpl with hpl; subst hpl
              have hsz : (Go.sizeOf e).run P w = .ok j.size w := by simp [Go.sizeOf, typeInfo, hi]
              simp only [Result.andThen_ok, Sem.run_bind, hsz, Array.toList_map]
              rw [hfill]
              rfl
          case struct fs =>
            injection hpl with hpl; subst hpl
            have hall' : ∀ f ∈ fs, (P.info? f.type).isSome = true := fun f hf => Array.all_eq_true_iff_forall_mem.1 hall f hf
            have hmap := allSized (P := P) (w := w) (fs := fs) hall'
            simp only [Result.andThen_ok, Sem.run_bind, hmap, Array.toList_map]
            have : (fun (i : Nat) => (fs.map fun (f : Field) => (f.offset, P.cellsOf f.type))[i]?) = (fun (i : Nat) => match fs[i]? with
              | some f => (P.info? f.type).map fun j => (f.offset, j.size)
              | none => none) := by
              funext i
              rw [Array.getElem?_map]
              cases hfi : fs[i]? with
              | none => rfl
              | some f =>
                have hmem : f ∈ fs := Array.mem_of_getElem? hfi
                have hs := hall' f hmem
                obtain ⟨i', hi'⟩ := Option.isSome_iff_exists.1 hs
                simp [Program.cellsOf, hi']
            rw [this, hfill]
            rfl
      simp only [Sem.run_bind, hrun, Result.andThen_ok, Sem.run_pure]
      exact Res.val hR h (shp_ok hvr hv hShV)
    · exact h.elim
  · exact h.elim

/-! ### parts of values, addresses of fields -/
def afield (off sz : Nat) (sh : Sh) (x : AV) (A : Heap) (K : AV → Heap → Prop) : Prop :=
  match x with
  | .agg l => match getC l off sz sh with
    | some v => K v A
    | none => False
  | _ => False
/-- A field's offset, shape and number of cells. -/
def fieldOf (P : Program) (t : TypeId) (i : Nat) : Option (Nat × Sh × Nat) :=
  match P.underlying t with
  | some (.struct fs) => match fs[i]? with
    | some f => match shOf P f.type with
      | some (sh, sz) => if 0 < sz then some (f.offset, sh, sz) else none
      | none => none
    | none => none
  | _ => none
theorem run_part {t : TypeId} {sh : Sh} {sz : Nat} (hs : shOf P t = some (sh, sz)) {cs : List Value} {off : Nat} (hle : off + sz ≤ cs.length) :
    ∃ c, (part t cs.toArray off).run P w = .ok c w ∧ ShV sh ((cs.drop off).take sz) c := by
  obtain ⟨ha, hsz, h1⟩ := shOf_run (w := w) hs
  have hext : (cs.toArray.extract off (off + sz)) = ((cs.drop off).take sz).toArray := by
    simp [List.extract_toArray, List.extract_eq_take_drop]
  cases sh with
  | sc =>
    have := h1 rfl
    subst this
    refine ⟨cs[off]'(by omega), ?_, ?_⟩
    · simp only [part, Sem.run_bind, ha, Result.andThen_ok, Bool.false_eq_true, if_false]
      simp [List.getElem?_eq_getElem (show off < cs.length by omega)]
    · simp only [ShV]
      rw [List.drop_eq_getElem_cons (by omega)]; rfl
  | ag => exact ⟨_, by simp only [part, Sem.run_bind, ha, hsz, Result.andThen_ok, if_true, Sem.run_pure, hext], rfl⟩
  | ia k n => exact ⟨_, by simp only [part, Sem.run_bind, ha, hsz, Result.andThen_ok, if_true, Sem.run_pure, hext], rfl⟩
theorem field_ok {t : TypeId} {i off sz : Nat} {sh : Sh} {x : AV} {c : Value} (hR : Rep E A w) (hf : fieldOf P t i = some (off, sh, sz)) (hx : TV E x c) (h : afield off sz sh x A K) :
    ResV E A w K ((do pure (Next.value (← Instr.field t c i)) : Sem Next).run P w) := by
  unfold fieldOf at hf
  split at hf
  · rename_i fs hu
    split at hf
    · rename_i f hfi
      split at hf
      · rename_i sh' sz' hs
        split at hf
        · rename_i hpos
          injection hf with hf; injection hf with e1 e2; injection e2 with e2 e3; subst e1; subst e2; subst e3
          unfold afield at h
          split at h
          · rename_i l
            obtain ⟨xs, hv, rfl⟩ := TV_agg.1 hx
            split at h
            · rename_i v hget
              obtain ⟨d, hrun, hd⟩ := run_part (w := w) hs (getC_len hv hget)
              simp only [Instr.field, Sem.run_bind, run_underlying hu w, Result.andThen_ok, hfi, asAgg, Sem.run_pure, hrun]
              exact Res.val hR h (getC_ok hv hget hd)
            · exact h.elim
          · exact h.elim
        · cases hf
      · cases hf
    · cases hf
  · cases hf

def afadr (off sz : Nat) (sh : Sh) (x : AV) (A : Heap) (K : AV → Heap → Prop) : Prop :=
  match x with
  | .ptr g o => K (.ptr g (o + off)) A
  | .pel g i o => K (.pel g i (o + off)) A
  | .pval v => match getC (comps v) off sz sh with
    | some v' => K (.pval v') A
    | none => False
  | _ => False
theorem fadr_ok {t : TypeId} {i off sz : Nat} {sh : Sh} {x : AV} {c : Value} (hR : Rep E A w) (hf : fieldOf P t i = some (off, sh, sz)) (hx : TV E x c) (h : afadr off sz sh x A K) :
    ResV E A w K ((do pure (Next.value (← Instr.fieldAt t c i)) : Sem Next).run P w) := by
  unfold fieldOf at hf
  split at hf
  · rename_i fs hu
    split at hf
    · rename_i f hfi
      split at hf
      · rename_i sh' sz' hs
        split at hf
        · rename_i hpos
          injection hf with hf; injection hf with e1 e2; injection e2 with e2 e3; subst e1; subst e2; subst e3
          have hsz := (shOf_run (w := w) hs).2.1
          have key : ∀ b o, (do pure (Next.value (← Instr.fieldAt t (.pointer (some (pA b o))) i)) : Sem Next).run P w = .ok (.value (.pointer (some (pA b (o + f.offset))))) w := by
            intro b o
            have h0 : ¬ sz' = 0 := by omega
            simp only [Instr.fieldAt, Sem.run_bind, run_underlying hu w, Result.andThen_ok, hfi, Instr.sureAddr, Sem.run_pure, fieldPlace, hsz, h0, if_false, pA_add]
          unfold afadr at h
          split at h
          · obtain ⟨hg, b, o', ha, rfl⟩ := TV_ptr.1 hx
            rw [key]
            exact Res.val hR h (TV_ptr.2 ⟨hg, b, o', ha, by rw [Nat.add_assoc]⟩)
          · obtain ⟨hg, b, o', ha, rfl⟩ := TV_pel.1 hx
            rw [key]
            exact Res.val hR h (TV_pel.2 ⟨hg, b, o', ha, by rw [Nat.add_assoc]⟩)
          · obtain ⟨b, o', xs, rfl, hl, hcell, hv⟩ := TV_pval.1 hx
            split at h
            · rename_i v' hget
              rw [key]
              have hlen := getC_len (VR_comps hv) hget
              have hvr := getC_VR (VR_comps hv) hget
              have hvv := comps_VR hvr
              have hl' := VR_len _ _ hvv
              have hsz' : v'.size = sz' := by rw [← hl']; simp; omega
              refine Res.val hR h (TV_pval.2 ⟨b, o' + f.offset, _, rfl, hl', fun j hj => ?_, hvv⟩)
              rw [List.getElem?_take, if_pos (by omega), List.getElem?_drop, Nat.add_assoc]
              exact hcell _ (by omega)
            · exact h.elim
          · exact h.elim
        · cases hf
      · cases hf
    · cases hf
  · cases hf
end
end AVL
