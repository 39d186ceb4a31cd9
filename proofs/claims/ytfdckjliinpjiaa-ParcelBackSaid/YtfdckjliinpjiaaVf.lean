/- Writing variables; making them; addresses of parts. -/
import Derived.Test.YtfdckjliinpjiaaVe
namespace AVL
open Go
set_option linter.unusedSimpArgs false
set_option linter.unusedVariables false

/-- A variable's int array with another element. -/
def setI (l : List AV) (o m i : Nat) (n : Int) : Option (List AV) :=
  match getI l o m with
  | some (k, xs) => setC l o m [.iarr k m (xs.set i n)]
  | none => none
def setEl (e : AV) (o sz : Nat) (x : AV) : Option AV :=
  match e with
  | .agg cs => (setC cs o sz (comps x)).map .agg
  | _ => if o = 0 ∧ e.size = sz ∧ AV.sizes (comps x) = sz then some x else none

section
variable {P : Program} {w : World} {E : Emb} {A : Heap} {K : AV → Heap → Prop}

def astore (sh : Sh) (sz : Nat) (p x : AV) (A : Heap) (K : AV → Heap → Prop) : Prop :=
  match shp sh (comps x) with
  | none => False
  | some v => v.st = true ∧ AV.sizes (comps v) = sz ∧ match p with
    | .ptr g o => match A g with
      | some (.var t l) => match setC l o sz (comps v) with
        | some l' => K .undef (A.set g (.var t l'))
        | none => False
      | _ => False
    | .pix g o m i => match A g with
      | some (.var t l) => match v, getI l o m with
        | .int k n, some (k', xs) => k = k' ∧ xs.length = m ∧ (match setI l o m i n with
          | some l' => K .undef (A.set g (.var t l'))
          | none => False)
        | _, _ => False
      | _ => False
    | .pel g i o => match A g with
      | some (.irow t k l) => match v with
        | .int k' n => k = k' ∧ i < l.length ∧ o = 0 ∧ K .undef (A.set g (.irow t k (l.set i n)))
        | _ => False
      | some (.row t s l) => ∃ h : i < l.length, match setEl l[i] o sz v with
        | some e => K .undef (A.set g (.row t s (l.set i e)))
        | none => False
      | _ => False
    | _ => False

theorem st_good {v : AV} (h : v.st = true) : good v = true := by cases v <;> simp_all [AV.st, good]

/-- What the machine's store does to a block. -/
theorem run_storeVar {t : TypeId} {sh : Sh} {sz : Nat} (hs : shOf P t = some (sh, sz)) {b off : Nat} {C : Array Value} {tb : TypeId} (hb : w.heap[b]? = some (.cells C tb (0, 0))) {d : Value}
    (hsz : d.cells.size = sz) (ho : ∀ x ∈ d.cells.toList, x.oneCell' = true) (hle : off + sz ≤ C.size) :
    (storeVar t (pA b off) d).run P w = .ok () (w.setRow b (C.toList.take off ++ d.cells.toList ++ C.toList.drop (off + sz)).toArray) := by
  obtain ⟨_, h2, _⟩ := shOf_run (w := w) hs
  have := run_storeCells_at (P := P) b off tb d.cells.toList 0 C w hb (by simpa [hsz] using hle) ho
  simp only [Nat.add_zero, Array.length_toList, hsz] at this
  have hst : (storeCells (pA b off) d.cells.toList).run P w = .ok () (w.setRow b (C.toList.take off ++ d.cells.toList ++ C.toList.drop (off + sz)).toArray) := this
  simp [storeVar, Sem.run_bind, h2, hsz, hst]

theorem setRow_heap_eq (w : World) (b : Nat) {C D : Array Value} {t : TypeId} (hb : w.heap[b]? = some (.cells C t (0, 0))) : (w.setRow b D).heap[b]? = some (.cells D t (0, 0)) := setRow_heap w b C D t (0, 0) hb
theorem setRow_heap_ne (w : World) (b x : Nat) (D : Array Value) (h : x ≠ b) : (w.setRow b D).heap[x]? = w.heap[x]? := by
  show (w.heap.modify b _)[x]? = _
  rw [Array.getElem?_modify]
  simp [Ne.symm h]
theorem Same.setRow (w : World) (b : Nat) (D : Array Value) : Same w (w.setRow b D) := ⟨rfl, rfl, by rw [size_setRow]; exact Nat.le_refl _⟩

theorem seg_get {α : Type} (L ns : List α) (off : Nat) (h : off + ns.length ≤ L.length) (i : Nat) :
    (L.take off ++ ns ++ L.drop (off + ns.length))[i]? = if off ≤ i ∧ i < off + ns.length then ns[i - off]? else L[i]? := by
  by_cases h1 : i < off
  · rw [List.append_assoc, List.getElem?_append_left (by simp; omega), List.getElem?_take, if_pos h1, if_neg (by omega)]
  · by_cases h2 : i < off + ns.length
    · rw [if_pos ⟨by omega, h2⟩, List.getElem?_append_left (by simp; omega), List.getElem?_append_right (by simp; omega)]
      congr 1; simp; omega
    · rw [if_neg (by omega), List.getElem?_append_right (by simp; omega), List.getElem?_drop]
      congr 1; simp; omega

theorem Res.skip {E : Emb} {A' : Heap} {w w' : World} {K : AV → Heap → Prop} (hR : Rep E A' w') (hk : K .undef A') (hs : Same w w') : Res E w K (.ok .skip w') :=
  ⟨.undef, A', E, w', hk, hR, Emb.Le.refl E, hs, .inr ⟨rfl, rfl⟩⟩

theorem store_ok {t : TypeId} {sh : Sh} {sz : Nat} {p x : AV} {c d : Value} (hR : Rep E A w) (hs : shOf P t = some (sh, sz)) (hp : TV E p c) (hx : TV E x d) (hgx : good x = true) (h : astore sh sz p x A K) :
    Res E w K ((do Instr.storeAt t c d; pure Next.skip : Sem Next).run P w) := by
  unfold astore at h
  split at h
  · exact h.elim
  rename_i v hv
  obtain ⟨hst, hsize, h⟩ := h
  have hcx := comps_ok hgx hx
  have hcv := shp_comps hcx hv
  have hdl : d.cells.toList.length = sz := by rw [VRs_len _ _ hcv]; exact hsize
  have hdl' : d.cells.size = sz := by simpa using hdl
  have hone : ∀ y ∈ d.cells.toList, y.oneCell' = true := sts_one (comps v) _ (by cases v <;> simp_all [comps, AV.st, AV.sts]) hcv
  have main : ∀ (b off : Nat) (C : Array Value) (tb : TypeId), c = .pointer (some (pA b off)) → w.heap[b]? = some (.cells C tb (0, 0)) → off + sz ≤ C.size →
      (∀ A', Rep E A' (w.setRow b (C.toList.take off ++ d.cells.toList ++ C.toList.drop (off + sz)).toArray) → K .undef A' → Res E w K ((do Instr.storeAt t c d; pure Next.skip : Sem Next).run P w)) := by
    intro b off C tb hc hb hle A' hR' hk
    subst hc
    simp only [Instr.storeAt, Instr.sureAddr, Sem.run_bind, Sem.run_pure, Result.andThen_ok, run_storeVar hs hb hdl' hone hle]
    exact Res.skip hR' hk (Same.setRow _ _ _)
  split at h
  · rename_i g o
    obtain ⟨hg, b, off, ha, rfl⟩ := TV_ptr.1 hp
    split at h
    · rename_i t' l hA
      split at h
      · rename_i l' hset
        obtain ⟨b', cs, ha', hF, hb, hvl⟩ := hR.cont g _ hA
        rw [ha] at ha'; injection ha' with ha'; injection ha' with e1 e2; subst e1; subst e2
        obtain ⟨hnew, hle⟩ := setC_ok hvl hcv hset
        refine main b (0 + o) _ _ rfl hb (by simpa using hle) _ ?_ h
        refine hR.change hA ha (fun y hy => setRow_heap_ne _ _ _ _ hy) ⟨b, _, ha, hF, setRow_heap_eq _ _ hb, ?_⟩
        simpa using hnew
      · exact h.elim
    · exact h.elim
  · rename_i g o m i
    obtain ⟨hg, him, b, off, ha, rfl⟩ := TV_pix.1 hp
    split at h
    · rename_i t' l hA
      split at h
      · rename_i _ k n k' xs hget
        obtain ⟨rfl, hxl, h⟩ := h
        split at h
        · rename_i l' hset
          obtain ⟨b', cs, ha', hF, hb, hvl⟩ := hR.cont g _ hA
          rw [ha] at ha'; injection ha' with ha'; injection ha' with e1 e2; subst e1; subst e2
          obtain ⟨hle, hcs⟩ := getI_ok hvl hget
          simp only [setI, hget] at hset
          simp only [comps, VRs, VR, AV.sizes, AV.size] at hcv hsize
          obtain ⟨c1, c2, hdc, rfl, rfl⟩ := hcv
          simp only [List.append_nil] at hdc
          have hsz1 : sz = 1 := by omega
          subst hsz1
          have hnv : VRs E [AV.iarr k m (xs.set i n)] ((List.range m).map (fun j => Value.int k ((xs.set i n).getD j 0))) := by
            simp only [VRs, VR]; exact ⟨_, [], (List.append_nil _).symm, rfl, rfl⟩
          obtain ⟨hnew, hle2⟩ := setC_ok hvl hnv hset
          refine main b (0 + o + i) _ _ rfl hb (by simp; omega) _ ?_ h
          refine hR.change hA ha (fun y hy => setRow_heap_ne _ _ _ _ hy) ⟨b, _, ha, hF, setRow_heap_eq _ _ hb, ?_⟩
          have heq : cs.take (0 + o + i) ++ d.cells.toList ++ cs.drop (0 + o + i + 1) = cs.take o ++ ((List.range m).map (fun j => Value.int k ((xs.set i n).getD j 0)) ++ cs.drop (o + m)) := by
            apply List.ext_getElem?
            intro q
            rw [← List.append_assoc, hdc]
            have s1 := seg_get cs [Value.int k n] (o + i) (by simp; omega) q
            have s2 := seg_get cs ((List.range m).map (fun j => Value.int k ((xs.set i n).getD j 0))) o (by simpa using hle) q
            simp only [List.length_map, List.length_range, List.length_singleton] at s1 s2
            rw [Nat.zero_add, s1, s2]
            by_cases hq : o ≤ q ∧ q < o + m
            · rw [if_pos hq]
              by_cases hq2 : o + i ≤ q ∧ q < o + i + 1
              · have : q = o + i := by omega
                subst this
                rw [if_pos (by omega)]
                simp [him, hxl]
              · rw [if_neg hq2]
                have h3 := hcs (q - o) (by omega)
                rw [show o + (q - o) = q by omega] at h3
                rw [h3]
                simp only [List.getElem?_map]
                rw [List.getElem?_range (by omega)]
                simp [List.getD_eq_getElem?_getD, List.getElem?_set, show ¬ i = q - o by omega]
            · rw [if_neg hq, if_neg (by omega)]
          have hfin : VRs E l' (cs.take (0 + o + i) ++ d.cells.toList ++ cs.drop (0 + o + i + 1)) := by rw [heq]; exact hnew
          simpa using hfin
        · exact h.elim
      · exact h.elim
    · exact h.elim
  · rename_i g i o
    obtain ⟨hg, b, off, ha, rfl⟩ := TV_pel.1 hp
    split at h
    · rename_i t' k l hA
      split at h
      · rename_i k' n
        obtain ⟨rfl, hi, rfl, hk⟩ := h
        obtain ⟨hsz, hroom, hrow⟩ := hR.cont g _ hA
        obtain ⟨hn, _⟩ | ⟨b', off', C, ha', hF, hb, hC, hcs⟩ := hrow
        · rw [hn] at ha; cases ha
        rw [ha] at ha'; injection ha' with ha'; injection ha' with e1 e2; subst e1; subst e2
        rw [hsz] at main ⊢
        simp only [comps, VRs, VR, AV.sizes, AV.size] at hcv hsize
        obtain ⟨c1, c2, hdc, rfl, rfl⟩ := hcv
        simp only [List.append_nil] at hdc
        have hsz1 : sz = 1 := by omega
        subst hsz1
        refine main b (off + i * 1 + 0) _ _ rfl hb (by omega) _ ?_ hk
        refine hR.change hA ha (fun y hy => setRow_heap_ne _ _ _ _ hy) ⟨hsz, by simpa using hroom, .inr ⟨b, off, _, ha, hF, setRow_heap_eq _ _ hb, ?_, fun j hj => ?_⟩⟩
        · rw [hdc]; simp; omega
        · rw [hdc]
          have s1 := seg_get C.toList [Value.int k n] (off + i) (by simp; omega) (off + j)
          simp only [List.length_singleton] at s1
          simp only [Nat.mul_one, Nat.add_zero, List.getElem?_toArray]
          rw [s1]
          simp at hj
          by_cases hq : off + i ≤ off + j ∧ off + j < off + i + 1
          · have : j = i := by omega
            subst this
            rw [if_pos hq]
            simp [hj]
          · rw [if_neg hq]
            have := hcs j hj
            simp [List.getD_eq_getElem?_getD, List.getElem?_set, show ¬ i = j by omega] at this ⊢
            exact this
      · exact h.elim
    · rename_i t' s l hA
      obtain ⟨hi, h⟩ := h
      split at h
      · rename_i e hset
        obtain ⟨hsz, hroom, hrow⟩ := hR.cont g _ hA
        obtain ⟨hn, _⟩ | ⟨b', off', C, ha', hF, hb, hC, hcs⟩ := hrow
        · rw [hn] at ha; cases ha
        rw [ha] at ha'; injection ha' with ha'; injection ha' with e1 e2; subst e1; subst e2
        rw [hsz] at main ⊢
        obtain ⟨ci, hl, hcell, hvi⟩ := hcs i l[i] (List.getElem?_eq_getElem hi)
        -- the element's new cells
        have hel : ∃ ne, ne = ci.take o ++ (d.cells.toList ++ ci.drop (o + sz)) ∧ o + sz ≤ ci.length ∧ VR E e ne := by
          unfold setEl at hset
          split at hset
          · rename_i cse hle
            cases hsc : setC cse o sz (comps v) with
            | none => rw [hsc] at hset; simp at hset
            | some l2 =>
              rw [hsc] at hset; simp at hset; subst hset
              rw [hle] at hvi
              simp only [VR] at hvi
              obtain ⟨hnew, hle2⟩ := setC_ok hvi hcv hsc
              exact ⟨_, rfl, hle2, by simpa only [VR] using hnew⟩
          · split at hset
            · rename_i hh
              obtain ⟨rfl, h5, h6⟩ := hh
              injection hset with hset; subst hset
              have h7 := VR_len _ _ hvi
              have e2 : ci.take 0 ++ (d.cells.toList ++ ci.drop (0 + sz)) = d.cells.toList := by
                rw [List.drop_of_length_le (by omega)]; simp
              exact ⟨_, rfl, by omega, by rw [e2]; exact comps_VR hcv⟩
            · cases hset
        obtain ⟨ne, hne, hole, hve⟩ := hel
        have hls : i * s + s ≤ (E.loc g).room * s := by
          have : (i + 1) * s ≤ (E.loc g).room * s := Nat.mul_le_mul_right _ (by omega)
          rw [Nat.succ_mul] at this; exact this
        have hnl : ne.length = s := by
          rw [hne]; simp [hdl]; omega
        refine main b (off + i * s + o) _ _ rfl hb (by omega) _ ?_ h
        refine hR.change hA ha (fun y hy => setRow_heap_ne _ _ _ _ hy) ⟨hsz, by simpa using hroom, .inr ⟨b, off, _, ha, hF, setRow_heap_eq _ _ hb, ?_, fun j v' hj => ?_⟩⟩
        · simp only [List.size_toArray, List.length_append, List.length_take, List.length_drop, Array.length_toList, hdl]; omega
        · have s1 := fun q => seg_get C.toList d.cells.toList (off + i * s + o) (by simp only [Array.length_toList, hdl]; omega) q
          simp only [hdl] at s1
          rw [List.getElem?_set] at hj
          split at hj
          · rename_i e'; subst e'
            injection hj with hj; subst hj
            refine ⟨ne, hnl, fun q hq => ?_, hve⟩
            rw [List.getElem?_toArray, s1]
            have s2 := seg_get ci d.cells.toList o (by rw [hdl]; exact hole) q
            rw [hne, ← List.append_assoc]
            simp only [hdl] at s2
            rw [s2]
            by_cases hq2 : o ≤ q ∧ q < o + sz
            · rw [if_pos (by omega), if_pos hq2]; congr 1; omega
            · rw [if_neg (by omega), if_neg hq2]
              have := hcell q hq
              simpa using this
          · rename_i e'
            obtain ⟨cj, hlj, hcj, hvj⟩ := hcs j v' hj
            refine ⟨cj, hlj, fun q hq => ?_, hvj⟩
            rw [List.getElem?_toArray, s1]
            rw [if_neg, ← hcj q hq]
            · simp
            · rcases Nat.lt_or_gt_of_ne e' with hlt | hlt
              · have : (i + 1) * s ≤ j * s := Nat.mul_le_mul_right _ hlt
                rw [Nat.succ_mul] at this; omega
              · have : (j + 1) * s ≤ i * s := Nat.mul_le_mul_right _ hlt
                rw [Nat.succ_mul] at this; omega
      · exact h.elim
    · exact h.elim
  · exact h.elim

/-! ### making -/
theorem alloc_gen (hR : Rep E A w) {t : TypeId} {l : List AV} {cs : List Value} (hv : VRs E l cs) (h : ∀ g, A g = none → K (.ptr g 0) (A.set g (.var t l))) {c : Value}
    (hc : c = .pointer (some ⟨w.heap.size, 0, none⟩)) : Res E w K (.ok (.value c) (w.alloc (.cells cs.toArray t))) := by
  subst hc
  refine ⟨.ptr E.N 0, A.set E.N (.var t l), E.push ⟨some (w.heap.size, 0), 1, 0⟩, w.alloc (.cells cs.toArray t), h _ hR.fresh, hR.alloc _ _ 0 rfl _ ?_, E.push_le _, Same.alloc _ _, .inl ⟨_, rfl, ?_⟩⟩
  · exact ⟨w.heap.size, cs, by rw [Emb.push_loc], by
      cases hF : E.F w.heap.size with
      | none => exact hF
      | some o => exact absurd (Array.getElem?_eq_some_iff.1 (hR.frm _ _ hF)).1 (Nat.lt_irrefl _), by rw [heap_alloc_eq]; simp, VRs_mono (E.push_le _) l cs hv⟩
  · exact TV_ptr.2 ⟨Nat.lt_succ_self _, w.heap.size, 0, by rw [Emb.push_loc], rfl⟩

/-- A type's zero value, part by part. -/
def zeroL (P : Program) : Nat → TypeId → Option (List AV)
  | 0, _ => none
  | d + 1, t => match P.underlying t with
    | some .bool => some [.bool false]
    | some (.int k) => some [.int k 0]
    | some .string => some [.str ByteArray.empty]
    | some (.slice _) => some [.nilS]
    | some (.pointer _) => some [.nilP]
    | some (.func ..) => some [.nilF]
    | some (.interface _) => some [.nilI]
    | some (.map ..) => some [.nilM]
    | some (.array n e) => match P.underlying e with
      | some (.int k) => some [.iarr k n (List.replicate n 0)]
      | _ => (zeroL P d e).map fun l => (List.replicate n l).flatten
    | some (.struct fs) => (fs.toList.mapM fun f => zeroL P d f.type).map List.flatten
    | _ => none

/-- The cells of a value without references. -/
def flatV : AV → Option (List Value)
  | .int k n => some [.int k n]
  | .bool b => some [.bool b]
  | .str s => some [.string s]
  | .iarr k n l => some ((List.range n).map fun j => .int k (l.getD j 0))
  | .nilS => some [.slice none 0 0]
  | .nilP => some [.pointer none]
  | .nilF => some [.nilFunc]
  | .nilI => some [.nilIface]
  | .nilM => some [.map none]
  | _ => none
def flatL : List AV → Option (List Value)
  | [] => some []
  | v :: r => match flatV v, flatL r with
    | some a, some b => some (a ++ b)
    | _, _ => none
theorem flatV_ok {v : AV} {cs : List Value} (h : flatV v = some cs) : VR E v cs := by
  unfold flatV at h
  split at h <;> first | (injection h with h; subst h; simp [VR]) | cases h
theorem flatL_ok : ∀ (l : List AV) (cs : List Value), flatL l = some cs → VRs E l cs
  | [], cs, h => by simp [flatL] at h; subst h; simp [VRs]
  | v :: r, cs, h => by
    simp only [flatL] at h
    split at h
    · rename_i a b h1 h2
      injection h with h; subst h
      simp only [VRs]
      exact ⟨a, b, rfl, flatV_ok h1, flatL_ok r b h2⟩
    · cases h
/-- Equality of plain cells. -/
def eqC : Value → Value → Bool
  | .int k n, .int k' n' => k == k' && n == n'
  | .bool a, .bool b => a == b
  | .string a, .string b => a.data.toList == b.data.toList
  | .slice none 0 0, .slice none 0 0 => true
  | .pointer none, .pointer none => true
  | .nilFunc, .nilFunc => true
  | .nilIface, .nilIface => true
  | .map none, .map none => true
  | _, _ => false
theorem eqC_ok {a b : Value} (h : eqC a b = true) : a = b := by
  unfold eqC at h
  split at h <;> simp_all
  rename_i a b
  cases a; cases b; simp_all
def eqCs : List Value → List Value → Bool
  | [], [] => true
  | a :: r, b :: s => eqC a b && eqCs r s
  | _, _ => false
theorem eqCs_ok : ∀ {a b : List Value}, eqCs a b = true → a = b
  | [], [], _ => rfl
  | x :: r, y :: s, h => by
    simp only [eqCs, Bool.and_eq_true] at h
    rw [eqC_ok h.1, eqCs_ok h.2]
  | [], _ :: _, h => by simp [eqCs] at h
  | _ :: _, [], h => by simp [eqCs] at h
/-- The zero value, checked against the program's own. -/
def zeroOf (P : Program) (t : TypeId) : Option (List AV) :=
  match zeroL P 8 t, (P.info? t).bind (·.zero) with
  | some l, some z => match flatL l with
    | some cs => if eqCs cs z.cells.toList then some l else none
    | none => none
  | _, _ => none
theorem zeroOf_ok {t : TypeId} {l : List AV} (h : zeroOf P t = some l) : ∃ z, (zeroValue t).run P w = .ok z w ∧ VRs E l z.cells.toList := by
  unfold zeroOf at h
  split at h
  · rename_i l' z hl hz
    split at h
    · rename_i cs hcs
      split at h
      · rename_i he
        injection h with h; subst h
        cases hi : P.info? t with
        | none => rw [hi] at hz; simp at hz
        | some i =>
          rw [hi] at hz
          have hz' : i.zero = some z := hz
          refine ⟨z, by simp [zeroValue, typeInfo, hi, hz'], ?_⟩
          rw [← eqCs_ok he]
          exact flatL_ok _ _ hcs
      · cases h
    · cases h
  · cases h

theorem alloc_ok {t : TypeId} {l : List AV} (hR : Rep E A w) (hz : zeroOf P t = some l) (h : ∀ g, A g = none → K (.ptr g 0) (A.set g (.var t l))) :
    Res E w K ((do pure (Next.value (← Instr.alloc t true (.tuple #[]))) : Sem Next).run P w) := by
  obtain ⟨z, hz, hv⟩ := zeroOf_ok (w := w) (E := E) hz
  have : (do pure (Next.value (← Instr.alloc t true (.tuple #[]))) : Sem Next).run P w = .ok (.value (.pointer (some ⟨w.heap.size, 0, none⟩))) (w.alloc (.cells z.cells.toList.toArray t)) := by
    simp only [Instr.alloc, Sem.run_bind, hz, Result.andThen_ok, newVar, newRow, newObj, Array.toArray_toList]
    rfl
  rw [this]
  exact alloc_gen hR hv h rfl

def abox (t : TypeId) (sh : Sh) (x : AV) (A : Heap) (K : AV → Heap → Prop) : Prop :=
  match shp sh (comps x) with
  | none => False
  | some v => ∀ g, A g = none → K (.ptr g 0) (A.set g (.var t (comps v)))
theorem box_ok {t : TypeId} {sh : Sh} {x : AV} {c : Value} (hR : Rep E A w) (hx : TV E x c) (hg : good x = true) (h : abox t sh x A K) :
    Res E w K ((do pure (Next.value (← Instr.box t c)) : Sem Next).run P w) := by
  unfold abox at h
  split at h
  · exact h.elim
  rename_i v hv
  have hcv := shp_comps (comps_ok hg hx) hv
  have : (do pure (Next.value (← Instr.box t c)) : Sem Next).run P w = .ok (.value (.pointer (some ⟨w.heap.size, 0, none⟩))) (w.alloc (.cells c.cells.toList.toArray t)) := by
    simp only [Instr.box, newVar, newRow, newObj, Array.toArray_toList]
    rfl
  rw [this]
  exact alloc_gen hR hcv h rfl
end
end AVL
