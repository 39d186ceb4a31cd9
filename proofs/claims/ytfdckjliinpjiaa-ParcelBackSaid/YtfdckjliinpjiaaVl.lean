/- Slices of arrays, arrays of slices, make, slice literals, conversions, equality. -/
import Derived.Test.YtfdckjliinpjiaaVk
import Derived.Laws.MakeOwn
namespace AVL
open Go
set_option linter.unusedSimpArgs false
set_option linter.unusedVariables false

section
variable {P : Program} {w : World} {E : Emb} {A : Heap} {K : AV → Heap → Prop}

/-- A slice of an array of whole numbers, behind its address. -/
def aslcA (m : Nat) (x : AV) (lo hi : Option AV) (A : Heap) (K : AV → Heap → Prop) : Prop :=
  match x with
  | .ptr g o => bnd lo 0 fun l => bnd hi m fun h => 0 ≤ l ∧ l ≤ h ∧ h ≤ m ∧ K (.asl g o m l.toNat (h.toNat - l.toNat)) A
  | .pval (.iarr k m' xs) => m' = m ∧ xs.length = m ∧ (bnd lo 0 fun l => bnd hi m fun h => 0 ≤ l ∧ l ≤ h ∧ h ≤ m ∧ K (.isl k ((xs.drop l.toNat).take (h.toNat - l.toNat))) A)
  | _ => False
/-- The number of elements of an array of whole numbers. -/
def intArr (P : Program) (t : TypeId) : Option Nat :=
  match P.underlying t with
  | some (.array m e) => match P.underlying e, P.info? e with
    | some (.int _), some j => if j.size = 1 then some m else none
    | _, _ => none
  | _ => none
theorem slcA_ok {t : TypeId} {m : Nat} {x : AV} {c : Value} {lo hi : Option AV} {vlo vhi : Option Value} (hR : Rep E A w) (ht : intArr P t = some m)
    (hx : TV E x c) (hlo : (lo = none ∧ vlo = none) ∨ ∃ a c, lo = some a ∧ vlo = some c ∧ TV E a c) (hhi : (hi = none ∧ vhi = none) ∨ ∃ a c, hi = some a ∧ vhi = some c ∧ TV E a c)
    (h : aslcA m x lo hi A K) :
    ResV E A w K ((do pure (Next.value (← Instr.sliceAt t c vlo vhi none)) : Sem Next).run P w) := by
  unfold intArr at ht
  split at ht
  · rename_i m' e hu
    split at ht
    · rename_i j _ hi'
      split at ht
      · rename_i hj
        injection ht with ht; subst ht
        have hsize : (Go.sizeOf e).run P w = .ok 1 w := by simp [Go.sizeOf, typeInfo, hi', hj]
        have main : ∀ (b off : Nat) (l h : Int), c = .pointer (some (pA b off)) → 0 ≤ l → l ≤ h → h ≤ m' →
            ((vlo = none ∧ l = 0) ∨ ∃ k, vlo = some (.int k l)) → ((vhi = none ∧ h = m') ∨ ∃ k, vhi = some (.int k h)) →
            (do pure (Next.value (← Instr.sliceAt t c vlo vhi none)) : Sem Next).run P w = .ok (.value (.slice (some (if m' = l.toNat then pA b off else pA b (off + l.toNat))) (h.toNat - l.toNat) (m' - l.toNat))) w := by
          rintro b off l h rfl h0 h1 h2 e1 e2
          have hb := run_bounds (P := P) (w := w) (isS := false) (len := m') (cap := m') h0 h1 (by omega) e1 e2
          simp [Instr.sliceAt, run_underlying hu, Instr.sureAddr, hb, hsize, pA_add]
        unfold aslcA at h
        split at h
        · rename_i g o
          obtain ⟨hg, b, off, ha, rfl⟩ := TV_ptr.1 hx
          have key : ∀ l h : Int, 0 ≤ l ∧ l ≤ h ∧ h ≤ m' ∧ K (.asl g o m' l.toNat (h.toNat - l.toNat)) A →
              ((vlo = none ∧ l = 0) ∨ ∃ k, vlo = some (.int k l)) → ((vhi = none ∧ h = m') ∨ ∃ k, vhi = some (.int k h)) →
              ResV E A w K ((do pure (Next.value (← Instr.sliceAt t (.pointer (some (pA b (off + o)))) vlo vhi none)) : Sem Next).run P w) := by
            rintro l h ⟨h0, h1, h2, hk⟩ e1 e2
            rw [main b _ l h rfl h0 h1 h2 e1 e2]
            refine Res.val hR hk (TV_asl.2 ⟨hg, by omega, _, rfl, ?_⟩)
            by_cases he : m' = l.toNat
            · exact .inl he
            · exact .inr ⟨b, off, ha, by rw [if_neg he]⟩
          rcases TVo_bnd hlo h with ⟨e1, h⟩ | ⟨k, l, e1, h⟩ <;> rcases TVo_bnd hhi h with ⟨e2, h⟩ | ⟨k', hh, e2, h⟩
          · exact key 0 _ h (.inl ⟨e1, rfl⟩) (.inl ⟨e2, rfl⟩)
          · exact key 0 _ h (.inl ⟨e1, rfl⟩) (.inr ⟨_, e2⟩)
          · exact key _ _ h (.inr ⟨_, e1⟩) (.inl ⟨e2, rfl⟩)
          · exact key _ _ h (.inr ⟨_, e1⟩) (.inr ⟨_, e2⟩)
        · rename_i k0 m'' xs
          obtain ⟨b, off, cs, rfl, hl, hcell, hv⟩ := TV_pval.1 hx
          obtain ⟨rfl, hxl, h⟩ := h
          simp only [VR] at hv; subst hv
          simp only [AV.size] at hcell hl
          have key : ∀ l h : Int, 0 ≤ l ∧ l ≤ h ∧ h ≤ m'' ∧ K (.isl k0 ((xs.drop l.toNat).take (h.toNat - l.toNat))) A →
              ((vlo = none ∧ l = 0) ∨ ∃ k, vlo = some (.int k l)) → ((vhi = none ∧ h = m'') ∨ ∃ k, vhi = some (.int k h)) →
              ResV E A w K ((do pure (Next.value (← Instr.sliceAt t (.pointer (some (pA b off))) vlo vhi none)) : Sem Next).run P w) := by
            rintro l h ⟨h0, h1, h2, hk⟩ e1 e2
            rw [main b _ l h rfl h0 h1 h2 e1 e2]
            have hlen : ((xs.drop l.toNat).take (h.toNat - l.toNat)).length = h.toNat - l.toNat := by simp; omega
            refine Res.val hR hk (TV_isl.2 ⟨_, _, by rw [hlen], by rw [hlen]; omega, fun hpos => ?_⟩)
            rw [hlen] at hpos
            refine ⟨b, off + l.toNat, by rw [if_neg (by omega)], fun j hj => ?_⟩
            rw [hlen] at hj
            have := hcell (l.toNat + j) (by omega)
            rw [Nat.add_assoc, this]
            rw [List.getElem?_map, List.getElem?_range (by omega)]
            simp [List.getD_eq_getElem?_getD, List.getElem?_take, hj]
          rcases TVo_bnd hlo h with ⟨e1, h⟩ | ⟨k, l, e1, h⟩ <;> rcases TVo_bnd hhi h with ⟨e2, h⟩ | ⟨k', hh, e2, h⟩
          · exact key 0 _ h (.inl ⟨e1, rfl⟩) (.inl ⟨e2, rfl⟩)
          · exact key 0 _ h (.inl ⟨e1, rfl⟩) (.inr ⟨_, e2⟩)
          · exact key _ _ h (.inr ⟨_, e1⟩) (.inl ⟨e2, rfl⟩)
          · exact key _ _ h (.inr ⟨_, e1⟩) (.inr ⟨_, e2⟩)
        · exact h.elim
      · cases ht
    · cases ht
  · cases ht

/-- The array that a slice's first elements are. -/
def as2a (m : Nat) (x : AV) (A : Heap) (K : AV → Heap → Prop) : Prop :=
  0 < m ∧ match x with
  | .isl k l => m ≤ l.length ∧ K (.pval (.iarr k m (l.take m))) A
  | .own g i n => m ≤ n ∧ K (.pel g i 0) A
  | .asl g o m' i n => m ≤ n ∧ K (.pix g o m' i) A
  | _ => False
theorem s2a_ok {t : TypeId} {m : Nat} {x : AV} {c : Value} (hR : Rep E A w) (ht : intArr P t = some m) (hx : TV E x c) (h : as2a m x A K) :
    ResV E A w K ((do pure (Next.value (← Instr.arrayAt t c)) : Sem Next).run P w) := by
  unfold intArr at ht
  split at ht
  · rename_i m' e hu
    have hm : m' = m := by
      split at ht
      · split at ht
        · injection ht
        · cases ht
      · cases ht
    subst hm
    have main : ∀ (b off len cap : Nat), c = .slice (some (pA b off)) len cap → m' ≤ len →
        (do pure (Next.value (← Instr.arrayAt t c)) : Sem Next).run P w = .ok (.value (.pointer (some (pA b off)))) w := by
      rintro b off len cap rfl h1
      simp [Instr.arrayAt, run_underlying hu, show ¬ len < m' by omega]
    unfold as2a at h
    obtain ⟨hpos, h⟩ := h
    split at h
    · rename_i k l
      obtain ⟨hle, hk⟩ := h
      obtain ⟨a, cap, rfl, hcap, hp⟩ := TV_isl.1 hx
      obtain ⟨b, off, rfl, hc⟩ := hp (by omega)
      rw [main b off _ _ rfl hle]
      refine Res.val hR hk (TV_pval.2 ⟨b, off, (List.range m').map (fun j => .int k ((l.take m').getD j 0)), rfl, by simp [AV.size], fun j hj => ?_, by simp only [VR]⟩)
      simp only [AV.size] at hj
      rw [hc j (by omega), List.getElem?_map, List.getElem?_range hj]
      simp [List.getD_eq_getElem?_getD, List.getElem?_take, hj]
    · obtain ⟨hle, hk⟩ := h
      obtain ⟨hg, a, cap, rfl, hcap, hroom, hloc⟩ := TV_own.1 hx
      rcases hloc with rfl | ⟨b, off, ha, rfl⟩
      · omega
      rw [main b _ _ _ rfl hle]
      exact Res.val hR hk (TV_pel.2 ⟨hg, b, off, ha, rfl⟩)
    · obtain ⟨hle, hk⟩ := h
      obtain ⟨hg, him, a, rfl, hloc⟩ := TV_asl.1 hx
      rcases hloc with rfl | ⟨b, off, ha, rfl⟩
      · omega
      rw [main b _ _ _ rfl hle]
      exact Res.val hR hk (TV_pix.2 ⟨hg, by omega, b, off, ha, rfl⟩)
    · exact h.elim
  · cases ht

/-! ### make([]T, n), whole numbers -/
def amkI (e : TypeId) (k : IntKind) (bytes : Nat) (l c : AV) (A : Heap) (K : AV → Heap → Prop) : Prop :=
  match l, c with
  | .int _ n, .int _ m => n = m ∧ 0 ≤ n ∧ n * bytes ≤ 140737488355328 ∧ ∀ g, A g = none → K (.own g 0 n.toNat) (A.set g (.irow e k (List.replicate n.toNat 0)))
  | _, _ => False
def amk (e : TypeId) (sz bytes : Nat) (z : AV) (l c : AV) (A : Heap) (K : AV → Heap → Prop) : Prop :=
  match l, c with
  | .int _ n, .int _ m => n = m ∧ 0 ≤ n ∧ n * bytes ≤ 140737488355328 ∧ ∀ g, A g = none → K (.own g 0 n.toNat) (A.set g (.row e sz (List.replicate n.toNat z)))
  | _, _ => False
theorem VRe_replicate {sz : Nat} {z : AV} {cs : List Value} (hl : cs.length = sz) (hv : VR E z cs) : ∀ n : Nat, VRe E sz (List.replicate n z) (List.replicate n cs).flatten
  | 0 => rfl
  | n + 1 => by
    rw [List.replicate_succ, List.replicate_succ, List.flatten_cons]
    exact ⟨cs, _, rfl, hl, hv, VRe_replicate hl hv n⟩
theorem flatten_get {cs : List Value} : ∀ (n i : Nat), i < n * cs.length → (List.replicate n cs).flatten[i]? = cs[i % cs.length]?
  | 0, i, h => by simp at h
  | n + 1, i, h => by
    rw [List.replicate_succ, List.flatten_cons]
    by_cases hi : i < cs.length
    · rw [List.getElem?_append_left hi, Nat.mod_eq_of_lt hi]
    · rw [List.getElem?_append_right (by omega), flatten_get n _ (by rw [Nat.succ_mul] at h; omega)]
      congr 1
      rw [← Nat.sub_add_cancel (show cs.length ≤ i by omega), Nat.add_mod_right, Nat.sub_add_cancel (by omega)]
theorem mk_gen {t e : TypeId} {i : TypeInfo} {zv : Value} {z : AV} (hR : Rep E A w) (ht : P.underlying t = some (.slice e)) (hi : P.info? e = some i) (hz : i.zero = some zv) (hzs : zv.cells.size = i.size)
    (hzv : VR E z zv.cells.toList) (hsz : 0 < i.size) {c d : Value} {n : Int} {k k' : IntKind} (hc : c = .int k n) (hd : d = .int k' n) (h0 : 0 ≤ n) (hb : n * i.bytes ≤ 140737488355328) (hby : 0 < i.bytes)
    (h : ∀ g, A g = none → K (.own g 0 n.toNat) (A.set g (.row e i.size (List.replicate n.toNat z)))) :
    Res E w K ((do pure (Next.value (← Instr.makeSlice t c d)) : Sem Next).run P w) := by
  subst hc; subst hd
  have hn : n ≤ 140737488355328 := by
    have : n * 1 ≤ n * i.bytes := Int.mul_le_mul_of_nonneg_left (by omega) h0
    omega
  have hrun := run_make (P := P) w t e i zv ht hi hz k k' n n h0 (Int.le_refl _) (by rw [Int.mul_comm]; omega) (by omega)
  have hll := VRe_len (VRe_replicate (by simpa using hzs) hzv n.toNat)
  simp only [List.length_replicate] at hll
  simp only [Sem.run_bind, hrun, Result.andThen_ok, Sem.run_pure]
  obtain ⟨hR2, hT⟩ := new_row hR (e := e) (VRe_replicate (by simpa using hzs) hzv n.toNat) (w1 := w) rfl (C := madeCells zv.cells (n.toNat * i.size)) (cap := n.toNat) (by simp) (by simp [madeCells]) (fun j hj => by
    rw [hll] at hj
    rw [flatten_get _ _ (by simpa [hzs] using hj)]
    have hlt : j % zv.cells.size < zv.cells.size := Nat.mod_lt _ (by omega)
    simp [madeCells, hj, hlt])
  simp only [List.length_replicate] at hT
  exact ⟨_, _, _, _, h _ hR.fresh, hR2, E.push_le _, Same.alloc _ _, .inl ⟨_, rfl, hT⟩⟩

/-- An element type: its number of cells, of bytes, its zero value as one abstract value. -/
def elOf (P : Program) (e : TypeId) : Option (Nat × Nat × AV) :=
  match P.info? e, shOf P e, zeroOf P e with
  | some i, some (sh, _), some l => match shp sh l, i.zero with
    | some z, some zv => if zv.cells.size = i.size ∧ 0 < i.size ∧ 0 < i.bytes then some (i.size, i.bytes, z) else none
    | _, _ => none
  | _, _, _ => none
theorem elOf_ok {e : TypeId} {sz bytes : Nat} {z : AV} (h : elOf P e = some (sz, bytes, z)) :
    ∃ i zv, P.info? e = some i ∧ i.size = sz ∧ i.bytes = bytes ∧ i.zero = some zv ∧ zv.cells.size = i.size ∧ 0 < i.size ∧ 0 < i.bytes ∧ ∀ E, VR E z zv.cells.toList := by
  unfold elOf at h
  split at h
  · rename_i i sh sz' l hi hs hz
    split at h
    · rename_i z' zv hz' hzv
      split at h
      · rename_i hh
        injection h with h; injection h with e1 e2; injection e2 with e2 e3; subst e1; subst e2; subst e3
        refine ⟨i, zv, hi, rfl, rfl, hzv, hh.1, hh.2.1, hh.2.2, fun E => ?_⟩
        obtain ⟨zv', hr, hv⟩ := zeroOf_ok (w := default) (E := E) hz
        have : zv' = zv := by
          simp [zeroValue, typeInfo, hi, hzv] at hr
          exact hr.symm
        subst this
        exact comps_VR (shp_comps hv hz')
      · cases h
    · cases h
  · cases h
def intK (P : Program) (e : TypeId) : Option IntKind := match P.underlying e with | some (.int k) => some k | _ => none

theorem mk_ok {t e : TypeId} {sz bytes : Nat} {z l c : AV} {vl vc : Value} (hR : Rep E A w) (ht : P.underlying t = some (.slice e)) (he : elOf P e = some (sz, bytes, z))
    (hl : TV E l vl) (hc : TV E c vc) (h : amk e sz bytes z l c A K) :
    Res E w K ((do pure (Next.value (← Instr.makeSlice t vl vc)) : Sem Next).run P w) := by
  obtain ⟨i, zv, hi, rfl, rfl, hz, hzs, hp, hby, hv⟩ := elOf_ok he
  unfold amk at h
  split at h
  · obtain ⟨rfl, h0, hb, hk⟩ := h
    simp only [TV_int] at hl hc
    exact mk_gen hR ht hi hz hzs (hv E) hp hl hc h0 hb hby hk
  · exact h.elim
theorem mkI_ok {t e : TypeId} {bytes : Nat} {k : IntKind} {l c : AV} {vl vc : Value} (hR : Rep E A w) (ht : P.underlying t = some (.slice e)) (he : elOf P e = some (1, bytes, .int k 0))
    (hl : TV E l vl) (hc : TV E c vc) (h : amkI e k bytes l c A K) :
    Res E w K ((do pure (Next.value (← Instr.makeSlice t vl vc)) : Sem Next).run P w) := by
  refine Res.irow (e := e) (k := k) (mk_ok hR ht he hl hc ?_)
  unfold amkI at h
  unfold amk
  split at h
  · obtain ⟨h1, h0, hb, hk⟩ := h
    exact ⟨h1, h0, hb, fun g hg => ⟨A, g, _, by rw [List.map_replicate], hk g hg⟩⟩
  · exact h.elim

/-! ### slice literals -/
def fillAll (env : AEnv) (sh : Sh) (sz : Nat) : List AO → Option (List AV)
  | [] => some []
  | x :: r => if good (ev env x) = true ∧ AV.sizes (comps (ev env x)) = sz then
      match shp sh (comps (ev env x)), fillAll env sh sz r with
      | some v, some l => some (v :: l)
      | _, _ => none
    else none
def trList : Nat → List (Nat × Operand) → Option (List AO)
  | _, [] => some []
  | n, (i, x) :: r => if i = n then match trO x, trList (n + 1) r with
      | some a, some l => some (a :: l)
      | _, _ => none
    else none
theorem fillAll_ok {env : AEnv} {a : Act} {sh : Sh} {sz : Nat} (he : EnvR E env a) : ∀ (ps : List (Nat × Operand)) (n : Nat) (xs : List AO) (l : List AV) (cells : Array Value) (pre : List Value), trList n ps = some xs → fillAll env sh sz xs = some l →
    pre.length = n * sz → cells.toList.take (n * sz) = pre → (n + ps.length) * sz ≤ cells.size →
    ∃ cs, VRe E sz l cs ∧ Instr.fill (fun i => some (i * sz, sz)) cells (ps.map fun p => (p.1, a.eval p.2)) = some (pre ++ cs ++ cells.toList.drop ((n + ps.length) * sz)).toArray
  | [], n, xs, l, cells, pre, ht, hf, hl, htk, hle => by
    simp only [trList] at ht; injection ht with ht; subst ht
    simp only [fillAll] at hf; injection hf with hf; subst hf
    refine ⟨[], rfl, ?_⟩
    simp only [List.map_nil, Instr.fill, List.length_nil, Nat.add_zero, List.append_nil, ← htk, List.take_append_drop, Array.toArray_toList]
  | (i, x) :: ps, n, xs, l, cells, pre, ht, hf, hl, htk, hle => by
    simp only [trList] at ht
    split at ht
    · rename_i e; subst e
      split at ht
      · rename_i ax ys hx hr
        injection ht with ht; subst ht
        simp only [fillAll] at hf
        split at hf
        · rename_i hg
          split at hf
          · rename_i v l' hv hl'
            injection hf with hf; subst hf
            have hc := comps_ok hg.1 (ev_ok he hx)
            have hlen := VRs_len _ _ hc
            rw [hg.2] at hlen
            simp only [List.length_cons] at hle
            have hm : (i + 1) * sz ≤ (i + (ps.length + 1)) * sz := Nat.mul_le_mul_right _ (by omega)
            have hi1 : (i + 1) * sz = i * sz + sz := Nat.succ_mul _ _
            simp only [List.map_cons]
            rw [fill_cons (off := i * sz) (sz := sz) rfl (by simpa using hlen) (by omega)]
            have hpl : cells.toList.length = cells.size := Array.length_toList
            obtain ⟨cs, hcs, hfill⟩ := fillAll_ok he ps (i + 1) ys l' ((cells.toList.take (i * sz) ++ ((a.eval x).cells.toList ++ cells.toList.drop (i * sz + sz))).toArray) (pre ++ (a.eval x).cells.toList) hr hl'
              (by rw [List.length_append, hl, hlen, hi1]) (by
                rw [htk, ← List.append_assoc]
                exact List.take_left' (by rw [List.length_append, hl, hlen, hi1])) (by
                simp only [List.size_toArray, List.length_append, List.length_take, List.length_drop, hlen, hpl]
                rw [show i + 1 + ps.length = i + (ps.length + 1) by omega]
                omega)
            refine ⟨(a.eval x).cells.toList ++ cs, ⟨_, cs, rfl, hlen, comps_VR (shp_comps hc hv), hcs⟩, ?_⟩
            have hD : List.drop ((i + 1 + ps.length) * sz) (List.take (i * sz) cells.toList ++ ((a.eval x).cells.toList ++ List.drop (i * sz + sz) cells.toList)).toArray.toList = cells.toList.drop ((i + (ps.length + 1)) * sz) := by
              have e1 : (i + 1 + ps.length) * sz = (i + (ps.length + 1)) * sz := by congr 1; omega
              rw [e1, htk]
              show List.drop _ (pre ++ ((a.eval x).cells.toList ++ List.drop (i * sz + sz) cells.toList)) = _
              rw [← List.append_assoc, List.drop_append, List.drop_of_length_le (by rw [List.length_append, hl, hlen]; omega), List.nil_append, List.drop_drop]
              congr 1
              rw [List.length_append, hl, hlen]
              omega
            rw [hfill, hD]
            simp [List.append_assoc]
          · cases hf
        · cases hf
      · cases ht
    · cases ht

def abslI (e : TypeId) (k : IntKind) (xs : List AO) (env : AEnv) (A : Heap) (K : AV → Heap → Prop) : Prop :=
  match fillAll env .sc 1 xs with
  | some l => match intsOf k l with
    | some ys => ∀ g, A g = none → K (.own g 0 xs.length) (A.set g (.irow e k ys))
    | none => False
  | none => False
def absl (e : TypeId) (sh : Sh) (sz : Nat) (xs : List AO) (env : AEnv) (A : Heap) (K : AV → Heap → Prop) : Prop :=
  match fillAll env sh sz xs with
  | some l => ∀ g, A g = none → K (.own g 0 xs.length) (A.set g (.row e sz l))
  | none => False
theorem fillAll_length {env : AEnv} {sh : Sh} {sz : Nat} : ∀ {xs : List AO} {l : List AV}, fillAll env sh sz xs = some l → l.length = xs.length
  | [], l, h => by simp only [fillAll] at h; injection h with h; subst h; rfl
  | x :: r, l, h => by
    simp only [fillAll] at h
    split at h
    · split at h
      · rename_i v l' _ h2
        injection h with h; subst h
        simp [fillAll_length h2]
      · cases h
    · cases h
theorem trList_length : ∀ {n : Nat} {ps : List (Nat × Operand)} {xs : List AO}, trList n ps = some xs → xs.length = ps.length
  | _, [], xs, h => by simp only [trList] at h; injection h with h; subst h; rfl
  | n, (i, x) :: r, xs, h => by
    simp only [trList] at h
    split at h
    · split at h
      · rename_i a l _ h2
        injection h with h; subst h
        simp [trList_length h2]
      · cases h
    · cases h
theorem bsl_ok {t e : TypeId} {sh : Sh} {sz bytes len : Nat} {z : AV} {ps : Array (Nat × Operand)} {xs : List AO} {env : AEnv} {a : Act} (hR : Rep E A w) (he : EnvR E env a) (ht : P.underlying t = some (.slice e))
    (hel : elOf P e = some (sz, bytes, z)) (hx : trList 0 ps.toList = some xs) (hlen : ps.size = len) (hmax : len * sz ≤ 2 ^ 24) (h : absl e sh sz xs env A K) :
    Res E w K ((do pure (Next.value (← Instr.buildSlice t len (ps.map fun (i, x) => (i, a.eval x)))) : Sem Next).run P w) := by
  obtain ⟨i, zv, hi, rfl, rfl, hz, hzs, hp, hby, hv⟩ := elOf_ok hel
  unfold absl at h
  split at h
  · rename_i l hl
    have hll := fillAll_length hl
    have hxl := trList_length hx
    simp only [Array.length_toList, hlen] at hxl
    have hsize : (Go.sizeOf e).run P w = .ok i.size w := by simp [Go.sizeOf, typeInfo, hi]
    have hmax' : ¬ (16777216 < len * i.size) := by omega
    have main : ∀ z0 : Array Value, ∃ cs, VRe E i.size l cs ∧ Instr.fill (fun j => some (j * i.size, i.size)) ((Array.range (len * i.size)).map (z0[· % z0.size]!)) ((ps.map fun (i, x) => (i, a.eval x)).toList) = some cs.toArray := by
      intro z0
      obtain ⟨cs, hcs, hf⟩ := fillAll_ok he ps.toList 0 xs l ((Array.range (len * i.size)).map (z0[· % z0.size]!)) [] hx hl (by simp) (by simp) (by simp [hlen])
      refine ⟨cs, hcs, ?_⟩
      rw [Array.toList_map, hf]
      congr 2
      simp [hlen]
    have hrun : ∃ cs, VRe E i.size l cs ∧ (Instr.buildSlice t len (ps.map fun (i, x) => (i, a.eval x))).run P w = .ok (.slice (some (pA w.heap.size 0)) len len) (w.alloc (.cells cs.toArray e)) := by
      by_cases h0 : len * i.size = 0
      · obtain ⟨cs, hcs, hf⟩ := main #[]
        refine ⟨cs, hcs, ?_⟩
        simp only [Instr.buildSlice, run_underlying ht, Sem.run_bind, Result.andThen_ok, hsize, h0, if_true, Sem.run_pure]
        simp only [h0] at hf
        simp only [show ¬ (0 > 2 ^ 24) by omega, if_false, Sem.run_bind, Sem.run_pure, Result.andThen_ok, hf]
        rfl
      · obtain ⟨cs, hcs, hf⟩ := main zv.cells
        refine ⟨cs, hcs, ?_⟩
        have hzr : (zeroValue e).run P w = .ok zv w := by simp [zeroValue, typeInfo, hi, hz]
        simp only [Instr.buildSlice, run_underlying ht, Sem.run_bind, Result.andThen_ok, hsize, h0, if_false, Sem.run_pure, hzr]
        simp only [show ¬ (len * i.size > 2 ^ 24) by omega, if_false, Sem.run_bind, hzr, Sem.run_pure, Result.andThen_ok, hf]
        rfl
    obtain ⟨cs, hcs, hrun⟩ := hrun
    simp only [Sem.run_bind, hrun, Result.andThen_ok, Sem.run_pure]
    have hcl := VRe_len hcs
    obtain ⟨hR2, hT⟩ := new_row hR (e := e) hcs (w1 := w) rfl (C := cs.toArray) (cap := len) (by omega) (by simp [hcl, hll, hxl]) (fun j hj => by simp)
    rw [hll, hxl] at hT
    rw [hxl] at h
    exact ⟨_, _, _, _, h _ hR.fresh, hR2, E.push_le _, Same.alloc _ _, .inl ⟨_, rfl, hT⟩⟩
  · exact h.elim
end
end AVL
