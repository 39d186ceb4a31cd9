/- Further operations: bytes that are marked as text's, a text of bytes, an element of an array. -/
import Derived.Laws.IdiomStrings
import Derived.Test.YtfdckjliinpjiaaVm
import Derived.Test.YtfdckjliinpjiaaVjz
import Derived.Test.YtfdckjliinpjiaaVl
import Derived.Laws.Strings
import Derived.MapKept
namespace AVL
open Go
set_option linter.unusedSimpArgs false
set_option linter.unusedVariables false

/-- Kinds of things that may be nil. -/
inductive NK where
  | ptr | fn | ifc | sl | mp
/-- Operations that look at values alone. -/
inductive POp where
  | mkF (fn : Fn) (n : Nat)
  | isNil (k : NK) (neg : Bool)
  | ifc (t : TypeId)
  | asrt (t : TypeId) (z : AV)
  | nilCk
  | strIdx
  | strSlc (lo hi : Bool)
  | mnI (mx : Bool)
def nilOf : NK → AV → Option Bool
  | .ptr, .nilP => some true
  | .ptr, .ptr .. | .ptr, .pix .. | .ptr, .pel .. | .ptr, .pval _ => some false
  | .fn, .nilF => some true
  | .fn, .func .. => some false
  | .ifc, .nilI => some true
  | .ifc, .iface .. => some false
  | .sl, .nilS => some true
  | .sl, .isl _ l => if 0 < l.length then some false else none
  | .sl, .dsl _ l => if 0 < l.length then some false else none
  | .mp, .nilM => some true
  | .mp, .map _ => some false
  | _, _ => none
def pop : POp → List AV → Option AV
  | .mkF fn n, xs => some (.func fn (xs.take n) (xs.drop n))
  | .isNil k neg, [x] => (nilOf k x).map fun b => .bool (b != neg)
  | .ifc t, [x] => some (.iface t x)
  | .asrt t z, [.nilI] => some (.tuple [z, .bool false])
  | .asrt t z, [.iface u v] => if u = t then some (.tuple [v, .bool true]) else some (.tuple [z, .bool false])
  | .nilCk, [x] => match x with
    | .ptr .. | .pix .. | .pel .. | .pval _ | .func (.func _) _ _ => some x
    | _ => none
  | .strIdx, [.str s, .int _ n] => if 0 ≤ n ∧ n.toNat < s.size then some (.int .u8 ((bytesI s).getD n.toNat 0)) else none
  | .strSlc lo hi, x :: r => match x with
    | .str s => match lo, hi, r with
      | true, true, [.int _ l, .int _ h] => if 0 ≤ l ∧ l ≤ h ∧ h ≤ s.size then some (.str (s.extract l.toNat h.toNat)) else none
      | true, false, [.int _ l] => if 0 ≤ l ∧ l ≤ s.size then some (.str (s.extract l.toNat s.size)) else none
      | false, true, [.int _ h] => if 0 ≤ h ∧ h ≤ s.size then some (.str (s.extract 0 h.toNat)) else none
      | _, _, _ => none
    | _ => none
  | .mnI mx, [.int k a, .int _ b] => some (.int k (if mx then (if b > a then b else a) else (if b < a then b else a)))
  | _, _ => none
inductive XOp where
  | p (o : POp)
  | sealB
  | strB (e : TypeId)
  | bstr
  | idxV (m sz : Nat) (sh : Sh)
  | appZ (e : TypeId) (k : IntKind) (bytes : Nat)
  | mkM (k : IntKind)
  | upM (k : IntKind)
  | lkM (k : IntKind) (z : AV) (ok : Bool)
def XOp.floats : XOp → Bool
  | .sealB | .strB _ | .appZ .. | .mkM _ | .upM _ | .lkM .. => false
  | _ => true
def XOp.reads : XOp → Bool
  | .bstr => true
  | _ => false
def strOf (l : List Int) : ByteArray := ⟨(l.map fun n => UInt8.ofNat n.toNat).toArray⟩
def isU8 (P : Program) (e : TypeId) : Bool := match P.underlying e with
  | some (.int .u8) => true
  | _ => false
theorem isU8_ok {P : Program} {e : TypeId} (h : isU8 P e = true) : P.underlying e = some (.int .u8) := by
  unfold isU8 at h
  split at h
  · assumption
  · cases h
def AV.isSl : AV → Bool
  | .nilS | .isl .. | .own .. | .asl .. => true
  | _ => false
/-- Entries by their keys. -/
def getM : List (Int × AV) → Int → Option AV
  | [], _ => none
  | (m, v) :: r, n => if n = m then some v else getM r n
def putM : List (Int × AV) → Int → AV → List (Int × AV)
  | [], n, v => [(n, v)]
  | (m, u) :: r, n, v => if n = m then (n, v) :: r else (m, u) :: putM r n v
def lkV (z : AV) (ok : Bool) (o : Option AV) : AV := if ok then .tuple [o.getD z, .bool o.isSome] else o.getD z
def xop (o : XOp) (xs : List AV) (A : Heap) (K : AV → Heap → Prop) : Prop :=
  match o, xs with
  | .p o, xs => match pop o xs with
    | some v => K v A
    | none => False
  | .sealB, [x] => match x with
    | .own g i n => 0 < n ∧ match A g with
      | some (.irow _ k l) => i + n ≤ l.length ∧ K (.isl k ((l.drop i).take n)) (A.del g)
      | _ => False
    | _ => False
  | .strB e, [x] => match x with
    | .str s => ∀ g, A g = none → K (.own g 0 s.size) (A.set g (.srow e .u8 (bytesI s)))
    | _ => False
  | .bstr, [x] => x.isSl = true ∧ srcI .u8 x A fun l => K (.str (strOf l)) A
  | .idxV m sz sh, [x, i] => match i with
    | .int _ n => x.isAgg = true ∧ 0 ≤ n ∧ n < m ∧ match getC (comps x) (n.toNat * sz) sz sh with
      | some v => K v A
      | none => False
    | _ => False
  | .appZ e k bytes, [d, s] => aappZ e k bytes d s A K
  | .mkM k, [] => ∀ g, A g = none → K (.map g) (A.set g (.mp k []))
  | .upM kd, [m, x, v] => match m, x with
    | .map g, .int k n => k = kd ∧ match A g with
      | some (.mp k' l) => k' = kd ∧ K .undef (A.set g (.mp kd (putM l n v)))
      | _ => False
    | _, _ => False
  | .lkM kd z ok, [m, x] => match x with
    | .int k n => k = kd ∧ match m with
      | .nilM => K (lkV z ok none) A
      | .map g => (match A g with
        | some (.mp k' l) => k' = kd ∧ K (lkV z ok (getM l n)) A
        | _ => False)
      | _ => False
    | _ => False
  | _, _ => False
def nkOf (P : Program) (t : TypeId) (c : Value) : Option NK := match P.underlying t, c with
  | some (.pointer _), .pointer none => some .ptr
  | some (.func ..), .nilFunc => some .fn
  | some (.interface _), .nilIface => some .ifc
  | some (.slice _), .slice none 0 0 => some .sl
  | some (.map ..), .map none => some .mp
  | _, _ => none
def zKind (P : Program) (e : TypeId) : Option Bool := match P.info? e with
  | some i => match i.zero with
    | some (.agg _) => some true
    | some (.int ..) | some (.bool _) | some (.string _) => some false
    | _ => none
  | none => none
def trX (P : Program) (o : Op) : Option (XOp × List Operand) :=
  match o with
  | .binOp op t x y _ => match y with
    | .const c => match nkOf P t c with
      | some k => match op with
        | .eql => some (.p (.isNil k false), [x])
        | .neq => some (.p (.isNil k true), [x])
        | _ => none
      | none => none
    | _ => none
  | .makeFunc fn first cap => match fn with
    | .func f => some (.p (.mkF (.func f) first.size), first.toList ++ cap.toList)
    | _ => none
  | .makeInterface t x => match P.underlying t with
    | some (.interface _) => none
    | some _ => some (.p (.ifc t), [x])
    | none => none
  | .typeAssert x _ t ok => match P.underlying t, P.info? t, elOf P t with
    | some (.struct _), some i, some (_, _, z) => match i.zero with
      | some (.agg _) => if z.isAgg = true ∧ ok = true then some (.p (.asrt t z), [x]) else none
      | _ => none
    | _, _, _ => none
  | .convert s t x => match P.underlying s, P.underlying t with
    | some (.slice e), some (.slice _) => if s = t ∧ isU8 P e = true then some (.sealB, [x]) else none
    | some (.slice e), some .string => if isU8 P e = true then some (.bstr, [x]) else none
    | some .string, some (.slice e) => if isU8 P e = true then some (.strB e, [x]) else none
    | _, _ => none
  | .index t x i => match P.underlying t with
    | some (.array m e) => match shOf P e with
      | some (sh, sz) => some (.idxV m sz sh, [x, i])
      | none => none
    | some .string => some (.p .strIdx, [x, i])
    | _ => none
  | .nilCheck x => some (.p .nilCk, [x])
  | .makeMap t r => match r, P.underlying t with
    | none, some (.map k _) => (intK P k).map fun kd => (.mkM kd, [])
    | _, _ => none
  | .mapUpdate t m x v => match P.underlying t with
    | some (.map k _) => (intK P k).map fun kd => (.upM kd, [m, x, v])
    | _ => none
  | .lookup t m x ok => match P.underlying t with
    | some (.map k e) => match intK P k, elOf P e with
      | some kd, some (_, _, z) => if zKind P e = some z.isAgg then some (.lkM kd z ok, [m, x]) else none
      | _, _ => none
    | _ => none
  | .slice t x lo hi mx => match P.underlying t, mx with
    | some .string, none => some (.p (.strSlc lo.isSome hi.isSome), x :: (lo.toList ++ hi.toList))
    | _, _ => none
  | .call c => match c.callee, c.args.toList, c.argTypes.toList with
    | .builtin .append, [d, s], [t, u] => match P.underlying t, P.underlying u with
      | some (.slice e), some (.int _) => match elOf P e, intK P e with
        | some (sz, bytes, .int k n), some k' => if sz = 1 ∧ n = 0 ∧ k = k' then some (.appZ e k bytes, [d, s]) else none
        | _, _ => none
      | _, _ => none
    | .builtin .min, [x, y], _ => some (.p (.mnI false), [x, y])
    | .builtin .max, [x, y], _ => some (.p (.mnI true), [x, y])
    | _, _, _ => none
  | _ => none

section
variable {P : Program} {w : World} {E : Emb} {A : Heap} {K : AV → Heap → Prop} {a : Act}

/-- The embedding with one block more that stays as it is. -/
def Emb.hold (E : Emb) (b : Nat) (o : Obj) : Emb := { E with F := fun x => if x = b then some o else E.F x }
theorem Emb.hold_le (E : Emb) {b : Nat} (o : Obj) (h : E.F b = none) : E.Le (E.hold b o) :=
  ⟨Nat.le_refl _, fun _ _ => rfl, fun x y hx => by
    simp only [Emb.hold]
    split
    · rename_i e; subst e; rw [h] at hx; cases hx
    · exact hx, rfl, fun _ _ h => h⟩
theorem Rep.hold (hR : Rep E A w) {b : Nat} {o : Obj} {w' : World} (hF : E.F b = none) (hb : w'.heap[b]? = some o) (hw : ∀ x, x ≠ b → w'.heap[x]? = w.heap[x]?)
    (hA : ∀ g c b' off, A g = some c → (E.loc g).addr = some (b', off) → b' ≠ b) (hH : E.H b = none) : Rep (E.hold b o) A w' := by
  refine ⟨fun x y hx => ?_, hR.lt, fun g c hg => ?_, hR.sep, hR.low, hR.lon, fun x y hx => ?_⟩
  · simp only [Emb.hold] at hx
    split at hx
    · rename_i e; subst e; injection hx with hx; subst hx; exact hb
    · rename_i hne; rw [hw x hne]; exact hR.frm x y hx
  · refine RepC_mono (E.hold_le o hF) (hR.lt g c hg) (hR.cont g c hg) (fun b' off ha => ?_) (fun b' off ha => hw b' (hA g c b' off hg ha))
    have hne := hA g c b' off hg ha
    simp only [Emb.hold, if_neg hne]
    exact (hR.blk hg ha).2
  · have h1 := hR.hid x y hx
    have hne : x ≠ b := fun e => by
      subst e
      have hx' : E.H x = some y := hx
      rw [hH] at hx'; cases hx'
    refine ⟨by rw [hw x hne]; exact h1.1, ?_, h1.2.2⟩
    simp only [Emb.hold, if_neg hne]
    exact h1.2.1

theorem run_mark {b off : Nat} {C : Array Value} {t : TypeId} (hb : w.heap[b]? = some (.cells C t (0, 0))) :
    (markStringish (pA b off)).run P w = .ok () (w.freeze { block := b, off := C.size } 1) := by
  simp [markStringish, pA, shape, World.shape?, hb, freeze, Sem.run]
theorem freeze_eq {b : Nat} {C : Array Value} {t : TypeId} (hb : w.heap[b]? = some (.cells C t (0, 0))) :
    (w.freeze { block := b, off := C.size } 1).heap[b]? = some (.cells C t (C.size, C.size + 1)) := by
  have hlt := (Array.getElem?_eq_some_iff.1 hb).1
  simp [World.freeze, Array.getElem?_modify, hb]
theorem freeze_ne {b x n k : Nat} (h : x ≠ b) : (w.freeze { block := b, off := n } k).heap[x]? = w.heap[x]? := by
  unfold World.freeze
  split
  · rfl
  · simp [Array.getElem?_modify, Ne.symm h]
theorem seal_ok {s t e e' : TypeId} {x : AV} {c : Value} (hR : Rep E A w) (h1 : P.underlying s = some (.slice e)) (h2 : P.underlying t = some (.slice e')) (hst : s = t) (he : P.underlying e = some (.int .u8))
    (hx : TV E x c) (h : xop .sealB [x] A K) : Res E w K ((do pure (Next.value (← convert s t c)) : Sem Next).run P w) := by
  subst hst
  rw [h1] at h2; injection h2 with h2; injection h2 with h2; subst h2
  simp only [xop] at h
  split at h
  · rename_i g i n
    obtain ⟨hn, h⟩ := h
    split at h
    · rename_i tt k l hA
      obtain ⟨hin, hk⟩ := h
      have hc := hR.cont g _ hA
      obtain ⟨hg, ad, cap, rfl, hcap, hroom, hloc⟩ := TV_own.1 hx
      obtain ⟨hsz, hlr, hcs⟩ := hc
      rcases hcs with ⟨hn0, hr0⟩ | ⟨b, off, C, ha, hF, hb, hC, hcs⟩
      · exfalso; omega
      · rcases hloc with h0 | ⟨b', off', ha', rfl⟩
        · exfalso; omega
        · rw [ha] at ha'; injection ha' with ha'; injection ha' with e1 e2; subst e1; subst e2
          rw [hsz, Nat.mul_one]
          have hrun : (convert s s (.slice (some (pA b (off + i))) n cap)).run P w = .ok (.slice (some (pA b (off + i))) n cap) (w.freeze { block := b, off := C.size } 1) := by
            simp only [convert, Sem.run_bind, run_underlying h1, Result.andThen_ok, he, beq_self_eq_true, run_mark hb, run_underlying he]
            rfl
          simp only [Sem.run_bind, hrun, Result.andThen_ok, Sem.run_pure]
          have hoth : ∀ g' c' b' o', (A.del g) g' = some c' → (E.loc g').addr = some (b', o') → b' ≠ b := by
            intro g' c' b' o' hg' ha2
            have hgn : g' ≠ g := fun e => by simp [Heap.del, e] at hg'
            exact hR.sep g' g c' _ (by simpa [Heap.del, hgn] using hg') hA hgn _ _ ha2 ha
          have hHb : E.H b = none := by
            cases hh : E.H b with
            | none => rfl
            | some o => exact absurd ha ((hR.hid b o hh).2.2 g _ hA _)
          refine ⟨_, _, E.hold b (.cells C tt (C.size, C.size + 1)), _, hk, (hR.del g).hold hF (freeze_eq hb) (fun x hx => freeze_ne hx) hoth hHb, E.hold_le _ hF, ?_, .inl ⟨_, rfl, ?_⟩⟩
          · refine ⟨?_, ?_, ?_⟩ <;> simp [World.freeze]
          · have hl : ((l.drop i).take n).length = n := by simp; omega
            refine .inr ⟨rfl, ?_⟩
            simp only [VR]
            refine ⟨_, cap, by rw [hl], by omega, fun _ => ⟨b, off + i, rfl, fun j hj => ?_⟩⟩
            rw [hl] at hj
            have := hcs (i + j) (by omega)
            simp only [Emb.cell, Emb.hold, if_true]
            rw [Nat.add_assoc, this]
            simp [List.getElem?_take, hj, List.getElem?_drop]
    · exact h.elim
  · exact h.elim
theorem idxV_ok {t e : TypeId} {m sz : Nat} {sh : Sh} {x i : AV} {c d : Value} (hR : Rep E A w) (ht : P.underlying t = some (.array m e)) (hs : shOf P e = some (sh, sz)) (hx : TV E x c) (hi : TV E i d)
    (h : xop (.idxV m sz sh) [x, i] A K) : ResV E A w K ((do pure (Next.value (← Instr.index t c d)) : Sem Next).run P w) := by
  simp only [xop] at h
  split at h
  · rename_i k n
    simp only [TV_int] at hi; subst hi
    obtain ⟨hag, h0, hm, h⟩ := h
    split at h
    · rename_i v hget
      rcases hx with ⟨_, xs, hv, rfl⟩ | ⟨hna, _⟩
      · have hvs := VR_comps hv
        obtain ⟨c', hrun, hd⟩ := run_part (w := w) hs (getC_len hvs hget)
        have hsz := (shOf_run (w := w) hs).2.1
        simp only [Instr.index, Sem.run_bind, asIntOf, Sem.run_pure, run_underlying ht w, Result.andThen_ok, h0, hm, and_self, if_true, hsz, hrun]
        exact Res.val hR h (getC_ok hvs hget hd)
      · rw [hag] at hna; cases hna
    · exact h.elim
  · exact h.elim

theorem run_bytes (g : Value → ByteArray → Sem (ForInStep ByteArray)) (hg : ∀ n r, g (.int .u8 n) r = pure (ForInStep.yield (r.push (UInt8.ofNat n.toNat)))) (f : List Int) (s : ByteArray) :
    (forIn ((f.map (Value.int .u8)).toArray) s g).run P w = .ok ⟨s.data ++ (f.map fun n => UInt8.ofNat n.toNat).toArray⟩ w := by
  rw [List.forIn_toArray]
  induction f generalizing s with
  | nil => simp
  | cons n r ih =>
    simp only [List.map_cons, List.forIn_cons, hg, Sem.run_bind, Sem.run_pure, Result.andThen_ok, ih]
    congr 1
    apply ByteArray.ext
    simp [ByteArray.push]
theorem bstr_ok {s t e : TypeId} {x : AV} {c : Value} (hR : Rep E A w) (h1 : P.underlying s = some (.slice e)) (h2 : P.underlying t = some .string) (he : P.underlying e = some (.int .u8))
    (hx : TV E x c) (h : xop .bstr [x] A K) : ResV E A w K ((do pure (Next.value (← convert s t c)) : Sem Next).run P w) := by
  simp only [xop] at h
  obtain ⟨hsl, h⟩ := h
  obtain ⟨vs, cs, ⟨ys, rfl, hk⟩, hr⟩ := srcG_ok (P := P) hR hx (srcI_G h)
  have hcs : cs = ys.map (Value.int .u8) := by
    have := hr.cells
    clear hr hk h
    induction ys generalizing cs with
    | nil => simpa [VRe] using this
    | cons y r ih =>
      simp only [List.map_cons, VRe] at this
      obtain ⟨c1, c2, rfl, _, h3, h4⟩ := this
      simp only [VR] at h3
      subst h3
      rw [ih c2 h4]; rfl
  subst hcs
  have hc : ∃ ad n cap, c = .slice ad n cap := by
    cases x <;> simp only [AV.isSl, Bool.false_eq_true] at hsl
    · simp only [TV_nilS] at hx; exact ⟨_, _, _, hx⟩
    · rcases hx with ⟨h, _⟩ | ⟨_, h⟩
      · cases h
      · simp only [VR] at h; obtain ⟨a, cap, h, _⟩ := h; injection h with h; exact ⟨_, _, _, h⟩
    · obtain ⟨_, a, cap, h, _⟩ := TV_own.1 hx; exact ⟨_, _, _, h⟩
    · obtain ⟨_, _, a, h, _⟩ := TV_asl.1 hx; exact ⟨_, _, _, h⟩
  obtain ⟨ad, n, cap, rfl⟩ := hc
  have hlen := hr.len
  have hf := hr.first w (ys.map (AV.int .u8)).length rfl (Nat.le_refl _)
  simp only [Builtin.lenOf, Sem.run_pure] at hlen
  injection hlen with hlen _
  simp only [List.length_map, Nat.mul_one] at hf hlen
  have hdo : (Conv.bytesToString (.slice ad n cap)).run P w = .ok (.string (strOf ys)) w := by
    cases ad with
    | none =>
      simp only [Builtin.firstCells, Sem.run_pure] at hf
      injection hf with hf _
      have : ys = [] := by
        have h2 := congrArg Array.size hf
        simp at h2
        exact List.eq_nil_of_length_eq_zero (by omega)
      subst this
      rfl
    | some ad =>
      simp only [Builtin.firstCells, Nat.mul_one] at hf
      unfold Conv.bytesToString
      subst hlen
      simp only [Sem.run_bind, hf, Result.andThen_ok, Sem.run_pure]
      have e : (List.take ys.length (ys.map (Value.int .u8))) = ys.map (Value.int .u8) := by rw [List.take_of_length_le (by simp)]
      rw [e]
      rw [run_bytes _ (fun n r => rfl) ys ByteArray.empty]
      simp [strOf]
  have hcv : (convert s t (.slice ad n cap)).run P w = .ok (.string (strOf ys)) w := by
    simp only [convert, Sem.run_bind, run_underlying h1, run_underlying h2, Result.andThen_ok, run_underlying he]
    exact hdo
  simp only [Sem.run_bind, hcv, Result.andThen_ok, Sem.run_pure]
  exact Res.val hR hk (.inr ⟨rfl, by simp [VR]⟩)
/-! maps -/
theorem intK_ok {e : TypeId} {k : IntKind} (h : intK P e = some k) : P.underlying e = some (.int k) := by
  unfold intK at h
  split at h
  · injection h with h; subst h; assumption
  · cases h
theorem zero_TV {e : TypeId} {sz by' : Nat} {z : AV} (h : elOf P e = some (sz, by', z)) (hk : zKind P e = some z.isAgg) : ∃ zv, (zeroValue e).run P w = .ok zv w ∧ TV E z zv := by
  obtain ⟨i, zv, hi, _, _, hz, _, _, _, hv⟩ := elOf_ok h
  refine ⟨zv, by simp [zeroValue, typeInfo, hi, hz], ?_⟩
  have hvE := hv E
  simp only [zKind, hi, hz] at hk
  cases zv <;> simp only [reduceCtorEq] at hk <;> injection hk with hk
  case agg => exact .inl ⟨hk.symm, _, hvE, by simp [Value.cells]⟩
  case int => exact .inr ⟨hk.symm, hvE⟩
  case bool => exact .inr ⟨hk.symm, hvE⟩
  case string => exact .inr ⟨hk.symm, hvE⟩
theorem TVl_app : ∀ {l m : List AV} {cs ds : List Value}, TVl E l cs → TVl E m ds → TVl E (l ++ m) (cs ++ ds)
  | [], m, cs, ds, h, h' => by rw [TVl_nil] at h; subst h; exact h'
  | v :: r, m, cs, ds, h, h' => by
    obtain ⟨c, cr, rfl, h1, h2⟩ := TVl_cons.1 h
    exact TVl_cons.2 ⟨c, _, rfl, h1, TVl_app h2 h'⟩
theorem modify_mid {α : Type} (f : α → α) (e : α) (e2 : List α) : ∀ e1 : List α, (e1 ++ e :: e2).modify e1.length f = e1 ++ f e :: e2
  | [] => rfl
  | x :: r => by simp [modify_mid f e e2 r]
theorem findM {k : IntKind} {n : Int} : ∀ (l : List (Int × AV)) (es : List MapEntry) (i : Nat), es.map (fun e : MapEntry => e.key) = l.map (fun p => Value.int k p.1) → TVl E (l.map fun p => p.2) (es.map fun e : MapEntry => e.val) →
    (getM l n = none ∧ Instr.findNow (.int k) (.int k n) es i = some none ∧ ∀ v, putM l n v = l ++ [(n, v)]) ∨
    ∃ l1 p l2 e1 e e2, l = l1 ++ p :: l2 ∧ es = e1 ++ e :: e2 ∧ e1.length = l1.length ∧ p.1 = n ∧ Instr.findNow (.int k) (.int k n) es i = some (some (i + e1.length, e.val)) ∧ getM l n = some p.2 ∧ ∀ v, putM l n v = l1 ++ (n, v) :: l2
  | [], es, i, hk, hv => by
    have : es = [] := by simpa using hk
    subst this
    exact .inl ⟨rfl, rfl, fun _ => rfl⟩
  | p :: r, [], i, hk, hv => by simp at hk
  | (m, u) :: r, e :: es, i, hk, hv => by
    simp only [List.map_cons, List.cons.injEq] at hk
    obtain ⟨c, cr, e0, hu, hr⟩ := TVl_cons.1 hv
    simp only [List.map_cons, List.cons.injEq] at e0
    obtain ⟨rfl, rfl⟩ := e0
    by_cases hm : n = m
    · subst hm
      refine .inr ⟨[], (n, u), r, [], e, es, rfl, rfl, rfl, rfl, ?_, by simp [getM], fun v => by simp [putM]⟩
      simp [Instr.findNow, Instr.sameNow, hk.1]
    · have hf : Instr.findNow (.int k) (.int k n) (e :: es) i = Instr.findNow (.int k) (.int k n) es (i + 1) := by
        have hb : (n == m) = false := by simp [hm]
        simp [Instr.findNow, Instr.sameNow, hk.1, hb]
      rw [hf]
      rcases findM r es (i + 1) hk.2 hr with ⟨h1, h2, h3⟩ | ⟨l1, p, l2, e1, e', e2, h1, h2, h3, h4, h5, h6, h7⟩
      · exact .inl ⟨by simp [getM, hm, h1], h2, fun v => by simp [putM, hm, h3]⟩
      · refine .inr ⟨(m, u) :: l1, p, l2, e :: e1, e', e2, by rw [h1]; rfl, by rw [h2]; rfl, by simp [h3], h4, ?_, by simp [getM, hm, h6], fun v => by simp [putM, hm, h7]⟩
        rw [h5]
        simp; omega
theorem TVl_split : ∀ {l1 l2 : List AV} {cs : List Value}, TVl E (l1 ++ l2) cs → ∃ c1 c2, cs = c1 ++ c2 ∧ c1.length = l1.length ∧ TVl E l1 c1 ∧ TVl E l2 c2
  | [], l2, cs, h => ⟨[], cs, rfl, rfl, TVl_nil.2 rfl, h⟩
  | v :: r, l2, cs, h => by
    obtain ⟨c, cr, rfl, h1, h2⟩ := TVl_cons.1 h
    obtain ⟨c1, c2, rfl, h3, h4, h5⟩ := TVl_split h2
    exact ⟨c :: c1, c2, rfl, by simp [h3], TVl_cons.2 ⟨c, c1, rfl, h1, h4⟩, h5⟩
theorem mkM_ok {t k e : TypeId} {kd : IntKind} (hR : Rep E A w) (h : xop (.mkM kd) [] A K) :
    Res E w K ((do pure (Next.value (← Instr.makeMap t none)) : Sem Next).run P w) := by
  simp only [xop] at h
  have hrun : (do pure (Next.value (← Instr.makeMap t none)) : Sem Next).run P w = .ok (.value (.map (some w.heap.size))) (w.alloc (.map #[] 0)) := rfl
  rw [hrun]
  have hF : E.F w.heap.size = none := by
    cases hF : E.F w.heap.size with
    | none => rfl
    | some o => exact absurd (Array.getElem?_eq_some_iff.1 (hR.frm _ _ hF)).1 (Nat.lt_irrefl _)
  refine ⟨.map E.N, A.set E.N (.mp kd []), E.push ⟨some (w.heap.size, 0), 1, 0⟩, _, h _ hR.fresh, hR.alloc _ _ 0 rfl _ ?_, E.push_le _, Same.alloc _ _, .inl ⟨_, rfl, .inr ⟨rfl, ?_⟩⟩⟩
  · exact ⟨w.heap.size, #[], 0, by rw [Emb.push_loc], hF, by rw [heap_alloc_eq]; simp, rfl, TVl_nil.2 rfl⟩
  · simp only [VR]
    exact ⟨Nat.lt_succ_self _, w.heap.size, 0, by rw [Emb.push_loc], rfl⟩
theorem strB_ok {s t e : TypeId} {x : AV} {c : Value} (hR : Rep E A w) (h1 : P.underlying s = some .string) (h2 : P.underlying t = some (.slice e)) (he : P.underlying e = some (.int .u8))
    (hx : TV E x c) (h : xop (.strB e) [x] A K) : Res E w K ((do pure (Next.value (← convert s t c)) : Sem Next).run P w) := by
  simp only [xop] at h
  split at h
  · rename_i str
    simp only [TV_str] at hx; subst hx
    have hrun := run_bytes_of_string (P := P) w s t e str h1 h2 he
    obtain ⟨cap, hcap⟩ : ∃ cap, grownCap w str.size 0 e = cap := ⟨_, rfl⟩
    have hle : str.size ≤ cap := by rw [← hcap]; exact grownCap_ge _ _ _ _
    rw [hcap] at hrun
    simp only [Sem.run_bind, hrun, Result.andThen_ok, Sem.run_pure]
    have hF : E.F w.heap.size = none := by
      cases hF : E.F w.heap.size with
      | none => rfl
      | some o => exact absurd (Array.getElem?_eq_some_iff.1 (hR.frm _ _ hF)).1 (Nat.lt_irrefl _)
    obtain ⟨C, hC⟩ : ∃ C, bytesRow str cap = C := ⟨_, rfl⟩
    rw [hC]
    have hR' := hR.alloc (.cells C e (C.size, C.size + 1)) ⟨some (w.heap.size, 0), 1, cap⟩ 0 rfl (.srow e .u8 (bytesI str)) ⟨by rw [Emb.push_loc], w.heap.size, C, (C.size, C.size + 1), by rw [Emb.push_loc], hF, by rw [heap_alloc_eq]; simp, fun j hj => by
      have hl : (bytesI str).length = str.size := by simp [bytesI]
      rw [hl] at hj
      have hj' : j < str.data.size := hj
      rw [← hC]
      simp only [bytesRow, bytesI]
      rw [Array.getElem?_append_left (by simpa using hj')]
      simp [hj', List.getD_eq_getElem?_getD, Array.getElem?_eq_getElem hj']⟩
    refine ⟨_, _, E.push ⟨some (w.heap.size, 0), 1, cap⟩, w.drew.alloc (.cells C e (C.size, C.size + 1)), h _ hR.fresh, ⟨hR'.frm, hR'.lt, fun g c hg => ?_, hR'.sep, hR'.low, hR'.lon, hR'.hid⟩, E.push_le _, ⟨rfl, rfl, ?_⟩, .inl ⟨_, rfl, ?_⟩⟩
    · have := hR'.cont g c hg
      cases c <;> exact this
    · show w.heap.size ≤ (w.heap.push _).size
      simp
    · refine .inr ⟨rfl, ?_⟩
      simp only [VR]
      refine ⟨Nat.lt_succ_self _, some (pA w.heap.size 0), cap, rfl, hle, by rw [Emb.push_loc]; simp, .inr ⟨w.heap.size, 0, by rw [Emb.push_loc], by rw [Emb.push_loc, Nat.zero_mul, Nat.add_zero]⟩⟩
  · exact h.elim
theorem TV_map {g : Nat} {c : Value} (h : TV E (.map g) c) : ∃ b off, (E.loc g).addr = some (b, off) ∧ c = .map (some b) := by
  rcases h with ⟨hn, _⟩ | ⟨_, h⟩
  · cases hn
  · simp only [VR] at h
    obtain ⟨_, b, off, h1, h2⟩ := h
    injection h2 with h2
    exact ⟨b, off, h1, h2⟩
theorem upM_ok {t k e : TypeId} {kd : IntKind} {m x v : AV} {cm cx cv : Value} (hR : Rep E A w) (ht : P.underlying t = some (.map k e)) (hk : intK P k = some kd) (hm : TV E m cm) (hx : TV E x cx) (hv : TV E v cv)
    (h : xop (.upM kd) [m, x, v] A K) : Res E w K ((do Instr.mapUpdate t cm cx cv; pure Next.skip : Sem Next).run P w) := by
  have hku := intK_ok hk
  simp only [xop] at h
  split at h
  · rename_i g kk n
    obtain ⟨rfl, h⟩ := h
    simp only [TV_int] at hx; subst hx
    split at h
    · rename_i k' l hA
      obtain ⟨rfl, h⟩ := h
      obtain ⟨b, off, ha, rfl⟩ := TV_map hm
      obtain ⟨b', es, ck, ha', hF, hb, hkeys, hvals⟩ := hR.cont g _ hA
      rw [ha'] at ha; injection ha with ha; injection ha with e1 e2; subst e1; subst e2
      have hkey : MapKept.IsKey (.int k') (.int k' n) := rfl
      have fin : ∀ (es' : Array MapEntry) (ck' : Nat), es'.toList.map (fun e : MapEntry => e.key) = (putM l n v).map (fun p => Value.int k' p.1) → TVl E ((putM l n v).map fun p => p.2) (es'.toList.map fun e : MapEntry => e.val) →
          Rep E (A.set g (.mp k' (putM l n v))) { w with heap := w.heap.setIfInBounds b' (.map es' ck') } := by
        intro es' ck' h1 h2
        obtain ⟨s1, s2⟩ := MapKept.heap_set (o' := .map es' ck') hb
        refine hR.change hA ha' (fun x hx => s2 x hx) ?_
        exact ⟨b', es', ck', ha', hF, s1, h1, h2⟩
      have same : ∀ o : Obj, Same w { w with heap := w.heap.setIfInBounds b' o } := fun o => ⟨rfl, rfl, by simp⟩
      rcases findM (n := n) l es.toList 0 hkeys hvals with ⟨h1, h2, h3⟩ | ⟨l1, p, l2, e1, e', e2, h1, h2, h3, h4, h5, h6, h7⟩
      · have hrun : (Instr.mapUpdate t (.map (some b')) (.int k' n) cv).run P w = .ok () { w with heap := w.heap.setIfInBounds b' (.map (es.push { key := .int k' n, val := cv, born := ck }) (ck + 1)) } := by
          simp [Instr.mapUpdate, run_underlying ht, MapKept.run_getObj_map hb, MapKept.run_checkKey hku hkey, MapKept.run_findKey hku h2, MapKept.run_setObj_map _ hb, Result.andThen]
        simp only [Sem.run_bind, hrun, Result.andThen_ok, Sem.run_pure]
        refine ⟨_, _, E, _, h, fin _ _ ?_ ?_, Emb.Le.refl E, same _, .inr ⟨rfl, rfl⟩⟩
        · rw [h3 v]; simp [hkeys]
        · rw [h3 v]
          simp only [Array.toList_push, List.map_append, List.map_cons, List.map_nil]
          exact TVl_app hvals (TVl_cons.2 ⟨cv, [], rfl, hv, TVl_nil.2 rfl⟩)
      · have hj : es[e1.length]? = some e' := by
          rw [← Array.getElem?_toList, h2]; simp
        have hek : e'.key = .int k' n := by
          have := congrArg (fun l => l[e1.length]?) hkeys
          simp only [h2, h1] at this
          rw [List.map_append, List.map_append, List.getElem?_append_right (by simp), List.getElem?_append_right (by simp [h3])] at this
          simp [h3, h4] at this
          exact this
        have hrun : (Instr.mapUpdate t (.map (some b')) (.int k' n) cv).run P w = .ok () { w with heap := w.heap.setIfInBounds b' (.map (es.modify e1.length fun e => { e with key := .int k' n, val := cv }) ck) } := by
          have h5' : Instr.findNow (.int k') (.int k' n) es.toList 0 = some (some (e1.length, e'.val)) := by rw [h5]; simp
          simp [Instr.mapUpdate, run_underlying ht, MapKept.run_getObj_map hb, MapKept.run_checkKey hku hkey, MapKept.run_findKey hku h5', hj, hek, MapKept.run_keyThatStays hkey, MapKept.run_setObj_map _ hb, Result.andThen]
        simp only [Sem.run_bind, hrun, Result.andThen_ok, Sem.run_pure]
        have hmod : (es.modify e1.length fun e => { e with key := .int k' n, val := cv }).toList = e1 ++ { e' with key := .int k' n, val := cv } :: e2 := by
          rw [Array.toList_modify, h2, modify_mid]
        refine ⟨_, _, E, _, h, fin _ _ ?_ ?_, Emb.Le.refl E, same _, .inr ⟨rfl, rfl⟩⟩
        · rw [h7 v, hmod]
          rw [h2, h1] at hkeys
          simp only [List.map_append, List.map_cons] at hkeys ⊢
          obtain ⟨a1, a2⟩ := List.append_inj hkeys (by simp [h3])
          injection a2 with _ a3
          rw [a1, a3]
        · rw [h7 v, hmod]
          rw [h2, h1] at hvals
          simp only [List.map_append, List.map_cons] at hvals ⊢
          obtain ⟨c1, c2, ec, hl, t1, t2⟩ := TVl_split hvals
          obtain ⟨d, dr, rfl, _, t3⟩ := TVl_cons.1 t2
          obtain ⟨a1, a2⟩ := List.append_inj ec (by simp [hl, h3])
          injection a2 with _ a3
          rw [a1, a3]
          exact TVl_app t1 (TVl_cons.2 ⟨cv, dr, rfl, hv, t3⟩)
    · exact h.elim
  · exact h.elim
theorem TV_lk {z : AV} {zv : Value} {ok : Bool} {o : Option AV} {c : Value} {b : Bool} (hz : TV E (o.getD z) c) (hb : b = o.isSome) : TV E (lkV z ok o) (if ok then .tuple #[c, .bool b] else c) := by
  subst hb
  cases ok
  · simpa [lkV] using hz
  · simp only [lkV, if_true]
    rw [TV_tuple]
    exact ⟨_, rfl, TVl_cons.2 ⟨_, _, rfl, hz, TVl_cons.2 ⟨_, _, rfl, .inr ⟨rfl, by simp [VR]⟩, TVl_nil.2 rfl⟩⟩⟩
theorem lkM_ok {t k e : TypeId} {kd : IntKind} {z m x : AV} {ok : Bool} {sz by' : Nat} {cm cx : Value} (hR : Rep E A w) (ht : P.underlying t = some (.map k e)) (hk : intK P k = some kd) (hz : elOf P e = some (sz, by', z)) (hzk : zKind P e = some z.isAgg)
    (hm : TV E m cm) (hx : TV E x cx) (h : xop (.lkM kd z ok) [m, x] A K) : ResV E A w K ((do pure (Next.value (← Instr.lookup t cm cx ok)) : Sem Next).run P w) := by
  have hku := intK_ok hk
  obtain ⟨zv, hzr, hzt⟩ := zero_TV (w := w) (E := E) hz hzk
  simp only [xop] at h
  split at h
  · rename_i kk n
    obtain ⟨rfl, h⟩ := h
    simp only [TV_int] at hx; subst hx
    have hkey : MapKept.IsKey (.int kk) (.int kk n) := rfl
    split at h
    · rcases hm with ⟨hn, _⟩ | ⟨_, hm⟩
      · cases hn
      · simp only [VR] at hm; injection hm with hm; subst hm
        have hf : (Instr.findKey k (.int kk n) ([] : List MapEntry)).run P w = .ok none w := MapKept.run_findKey hku rfl
        have hrun : (Instr.lookup t (.map none) (.int kk n) ok).run P w = .ok (if ok then .tuple #[zv, .bool false] else zv) w := by
          simp [Instr.lookup, run_underlying ht, MapKept.run_checkKey hku hkey, hf, hzr, Result.andThen]
        simp only [Sem.run_bind, hrun, Result.andThen_ok, Sem.run_pure]
        exact Res.val hR h (TV_lk (zv := zv) hzt rfl)
    · rename_i g
      split at h
      · rename_i k' l hA
        obtain ⟨rfl, h⟩ := h
        obtain ⟨b, off, ha, rfl⟩ := TV_map hm
        obtain ⟨b', es, ck, ha', hF, hb, hkeys, hvals⟩ := hR.cont g _ hA
        rw [ha'] at ha; injection ha with ha; injection ha with e1 e2; subst e1; subst e2
        rcases findM (n := n) l es.toList 0 hkeys hvals with ⟨h1, h2, h3⟩ | ⟨l1, p, l2, e1, e', e2, h1, h2, h3, h4, h5, h6, h7⟩
        · have hrun : (Instr.lookup t (.map (some b')) (.int k' n) ok).run P w = .ok (if ok then .tuple #[zv, .bool false] else zv) w := by
            simp [Instr.lookup, run_underlying ht, MapKept.run_getObj_map hb, MapKept.run_checkKey hku hkey, MapKept.run_findKey hku h2, hzr, Result.andThen]
          simp only [Sem.run_bind, hrun, Result.andThen_ok, Sem.run_pure]
          rw [h1] at h
          exact Res.val hR h (TV_lk (zv := zv) hzt rfl)
        · have hrun : (Instr.lookup t (.map (some b')) (.int k' n) ok).run P w = .ok (if ok then .tuple #[e'.val, .bool true] else e'.val) w := by
            simp [Instr.lookup, run_underlying ht, MapKept.run_getObj_map hb, MapKept.run_checkKey hku hkey, MapKept.run_findKey hku h5, Result.andThen]
          simp only [Sem.run_bind, hrun, Result.andThen_ok, Sem.run_pure]
          rw [h6] at h
          refine Res.val hR h (TV_lk (zv := zv) ?_ rfl)
          rw [h2, h1] at hvals
          simp only [List.map_append, List.map_cons] at hvals
          obtain ⟨c1, c2, ec, hl, t1, t2⟩ := TVl_split hvals
          obtain ⟨d, dr, rfl, t4, t3⟩ := TVl_cons.1 t2
          obtain ⟨a1, a2⟩ := List.append_inj ec (by simp [hl, h3])
          injection a2 with a3 _
          rw [a3]; exact t4
      · exact h.elim
    · exact h.elim
  · exact h.elim
/-! operations that look at values alone -/
theorem nil_ok {k : NK} {t : TypeId} {c : Value} (hk : nkOf P t c = some k) {x : AV} {d : Value} (hx : TV E x d) {b : Bool} (h : nilOf k x = some b) : (Op.equal t d c).run P w = .ok b w := by
  unfold nkOf at hk
  have e : Op.equal t d c = Op.equalIn (9999 + 1) t d c := rfl
  rw [e]
  unfold Op.equalIn
  split at hk <;> first | (cases hk; done) | (injection hk with hk; subst hk)
  · rename_i hu
    rw [Sem.run_bind, run_underlying hu, Result.andThen_ok]
    cases x <;> simp only [nilOf] at h <;> first | (cases h; done) | (injection h with h; subst h)
    · rcases hx with ⟨hn, _⟩ | ⟨_, hx⟩
      · cases hn
      · simp only [VR] at hx; obtain ⟨_, b, off, _, hx⟩ := hx; injection hx with hx; subst hx; rfl
    · rcases hx with ⟨hn, _⟩ | ⟨_, hx⟩
      · cases hn
      · simp only [VR] at hx; obtain ⟨_, _, b, off, _, hx⟩ := hx; injection hx with hx; subst hx; rfl
    · rcases hx with ⟨hn, _⟩ | ⟨_, hx⟩
      · cases hn
      · simp only [VR] at hx; obtain ⟨_, b, off, _, hx⟩ := hx; injection hx with hx; subst hx; rfl
    · rcases hx with ⟨hn, _⟩ | ⟨_, hx⟩
      · cases hn
      · simp only [VR] at hx; obtain ⟨b, off, _, hx, _⟩ := hx; injection hx with hx; subst hx; rfl
    · rcases hx with ⟨hn, _⟩ | ⟨_, hx⟩
      · cases hn
      · simp only [VR] at hx; injection hx with hx; subst hx; rfl
  · rename_i hu
    rw [Sem.run_bind, run_underlying hu, Result.andThen_ok]
    cases x <;> simp only [nilOf] at h <;> first | (cases h; done) | (injection h with h; subst h)
    · rcases hx with ⟨hn, _⟩ | ⟨_, hx⟩
      · cases hn
      · simp only [VR] at hx; obtain ⟨_, _, hx, _⟩ := hx; injection hx with hx; subst hx; rfl
    · rcases hx with ⟨hn, _⟩ | ⟨_, hx⟩
      · cases hn
      · simp only [VR] at hx; injection hx with hx; subst hx; rfl
  · rename_i hu
    rw [Sem.run_bind, run_underlying hu, Result.andThen_ok]
    cases x <;> simp only [nilOf] at h <;> first | (cases h; done) | (injection h with h; subst h)
    · rcases hx with ⟨hn, _⟩ | ⟨_, hx⟩
      · cases hn
      · simp only [VR] at hx; obtain ⟨_, hx, _⟩ := hx; injection hx with hx; subst hx; rfl
    · rcases hx with ⟨hn, _⟩ | ⟨_, hx⟩
      · cases hn
      · simp only [VR] at hx; injection hx with hx; subst hx; rfl
  · rename_i hu
    rw [Sem.run_bind, run_underlying hu, Result.andThen_ok]
    cases x <;> simp only [nilOf] at h <;> first | (cases h; done) | skip
    · injection h with h; subst h
      rcases hx with ⟨hn, _⟩ | ⟨_, hx⟩
      · cases hn
      · simp only [VR] at hx; injection hx with hx; subst hx; rfl
    · split at h
      · rename_i hl
        injection h with h; subst h
        rcases hx with ⟨hn, _⟩ | ⟨_, hx⟩
        · cases hn
        · simp only [VR] at hx; obtain ⟨a, cap, hx, _, hb⟩ := hx
          obtain ⟨b, off, rfl, _⟩ := hb hl
          injection hx with hx; subst hx; rfl
      · cases h
    · split at h
      · rename_i hl
        injection h with h; subst h
        rcases hx with ⟨hn, _⟩ | ⟨_, hx⟩
        · cases hn
        · simp only [VR] at hx; obtain ⟨a, cap, hx, _, hb⟩ := hx
          obtain ⟨b, off, rfl, _⟩ := hb hl
          injection hx with hx; subst hx; rfl
      · cases h
  · rename_i hu
    rw [Sem.run_bind, run_underlying hu, Result.andThen_ok]
    cases x <;> simp only [nilOf] at h <;> first | (cases h; done) | (injection h with h; subst h)
    · rcases hx with ⟨hn, _⟩ | ⟨_, hx⟩
      · cases hn
      · simp only [VR] at hx; obtain ⟨_, b, off, _, hx⟩ := hx; injection hx with hx; subst hx; rfl
    · rcases hx with ⟨hn, _⟩ | ⟨_, hx⟩
      · cases hn
      · simp only [VR] at hx; injection hx with hx; subst hx; rfl
theorem binOp_nil {k : NK} {t : TypeId} {c d : Value} (hk : nkOf P t c = some k) : (binOp .eql t d c = do pure (.bool (← Op.equal t d c))) ∧ (binOp .neq t d c = do pure (.bool (!(← Op.equal t d c)))) := by
  unfold nkOf at hk
  split at hk <;> first | (cases hk; done) | (cases d <;> exact ⟨rfl, rfl⟩)
theorem guard_nil {k : NK} {op : BinOp} {t : TypeId} {x : Operand} {c d : Value} (ho : op = .eql ∨ op = .neq) (hk : nkOf P t c = some k) : (eqGuard op t x (.const c) d c).run P w = .ok () w := by
  unfold nkOf at hk
  unfold eqGuard
  rcases ho with rfl | rfl
  · split at hk <;> first | (cases hk; done) | (cases d <;> first | rfl | (cases x <;> rfl))
  · split at hk <;> first | (cases hk; done) | (cases d <;> first | rfl | (cases x <;> rfl))
theorem TVl_take {n : Nat} : ∀ {l : List AV} {cs : List Value}, TVl E l cs → TVl E (l.take n) (cs.take n) ∧ TVl E (l.drop n) (cs.drop n) := by
  induction n with
  | zero => intro l cs h; exact ⟨TVl_nil.2 rfl, h⟩
  | succ n ih =>
    intro l cs h
    cases l with
    | nil => rw [TVl_nil] at h; subst h; exact ⟨TVl_nil.2 rfl, TVl_nil.2 rfl⟩
    | cons v r =>
      obtain ⟨c, cr, rfl, h1, h2⟩ := TVl_cons.1 h
      exact ⟨TVl_cons.2 ⟨c, _, rfl, h1, (ih h2).1⟩, (ih h2).2⟩
theorem TVl_two {l : List AV} {c : Value} {cs : List Value} (h : TVl E l (c :: cs)) : ∃ x r, l = x :: r ∧ TV E x c ∧ TVl E r cs := by
  cases l with
  | nil => rw [TVl_nil] at h; cases h
  | cons x r =>
    obtain ⟨c', cr, e, hx, hr⟩ := TVl_cons.1 h
    injection e with e1 e2; subst e1; subst e2
    exact ⟨x, r, rfl, hx, hr⟩
theorem TVl_len0 {l : List AV} (h : TVl E l []) : l = [] := by
  cases l with
  | nil => rfl
  | cons x r => obtain ⟨_, _, e, _⟩ := TVl_cons.1 h; cases e
theorem p_ok {o : Oper} {po : POp} {ys : List Operand} {vs : List AV} {v : AV} (ho : trX P o.op = some (.p po, ys)) (hv : TVl E vs (ys.map a.eval)) (h : pop po vs = some v) :
    ∃ c, (execOp a.eval o).run P w = .ok (.value c) w ∧ TV E v c := by
  have one : ∀ {c : Value}, TVl E vs [c] → ∃ x, vs = [x] ∧ TV E x c := by
    intro c hv
    match vs, hv with
    | [], hv => rw [TVl_nil] at hv; cases hv
    | x :: r, hv =>
      obtain ⟨c', cr, e, hx, hr⟩ := TVl_cons.1 hv
      injection e with e1 e2; subst e1; subst e2
      match r, hr with
      | [], _ => exact ⟨x, rfl, hx⟩
      | y :: _, hr => obtain ⟨_, _, e, _⟩ := TVl_cons.1 hr; cases e
  have two : ∀ {c d : Value}, TVl E vs [c, d] → ∃ x y, vs = [x, y] ∧ TV E x c ∧ TV E y d := by
    intro c d hv
    obtain ⟨x, r, rfl, hx, hr⟩ := TVl_two hv
    obtain ⟨y, r, rfl, hy, hr⟩ := TVl_two hr
    cases r with
    | nil => exact ⟨x, y, rfl, hx, hy⟩
    | cons _ _ => obtain ⟨_, _, e, _⟩ := TVl_cons.1 hr; cases e
  cases hop : o.op <;> rw [hop] at ho <;> simp only [trX] at ho <;> try (cases ho; done)
  case makeMap => (repeat' split at ho) <;> first | (cases ho; done) | (simp only [Option.map_eq_some_iff] at ho; obtain ⟨_, _, e⟩ := ho; injection e with e _; cases e)
  case mapUpdate => (repeat' split at ho) <;> first | (cases ho; done) | (simp only [Option.map_eq_some_iff] at ho; obtain ⟨_, _, e⟩ := ho; injection e with e _; cases e)
  case lookup => (repeat' split at ho) <;> first | (cases ho; done) | (injection ho with e; injection e with e _; cases e)
  case binOp op t x y ct =>
    split at ho
    · rename_i c
      split at ho
      · rename_i k hk
        cases op <;> simp only at ho <;> first | (cases ho; done) | (injection ho with ho; injection ho with e1 e2; injection e1 with e1; subst e1; subst e2)
        · obtain ⟨x', rfl, hx⟩ := one hv
          simp only [pop] at h
          cases hn : nilOf k x' with
          | none => rw [hn] at h; cases h
          | some b =>
            rw [hn] at h; injection h with h; subst h
            refine ⟨.bool b, ?_, .inr ⟨rfl, by simp [VR]⟩⟩
            have e : a.eval (.const c) = c := rfl
            simp only [execOp, hop, e, Sem.run_bind, guard_nil (.inl rfl) hk, Result.andThen_ok, (binOp_nil hk).1, nil_ok hk hx hn, Sem.run_pure]
        · obtain ⟨x', rfl, hx⟩ := one hv
          simp only [pop] at h
          cases hn : nilOf k x' with
          | none => rw [hn] at h; cases h
          | some b =>
            rw [hn] at h; injection h with h; subst h
            refine ⟨.bool (!b), ?_, .inr ⟨rfl, by cases b <;> simp [VR]⟩⟩
            have e : a.eval (.const c) = c := rfl
            simp only [execOp, hop, e, Sem.run_bind, guard_nil (.inr rfl) hk, Result.andThen_ok, (binOp_nil hk).2, nil_ok hk hx hn, Sem.run_pure]
      · cases ho
    · cases ho
  case makeFunc fn first cap =>
    split at ho
    · rename_i f
      injection ho with ho; injection ho with e1 e2; injection e1 with e1; subst e1; subst e2
      simp only [pop] at h; injection h with h; subst h
      refine ⟨.func (.func f) (first.map a.eval) (cap.map a.eval), by simp only [execOp, hop, Instr.makeFunc, Sem.run_bind, Sem.run_pure, Result.andThen_ok], .inr ⟨rfl, ?_⟩⟩
      simp only [VR]
      have := TVl_take (n := first.size) hv
      refine ⟨_, _, rfl, ?_, ?_⟩
      · have e : (List.map a.eval (first.toList ++ cap.toList)).take first.size = (first.map a.eval).toList := by
          rw [List.map_append, List.take_append_of_le_length (by simp), List.take_of_length_le (by simp)]; simp
        rw [← e]; exact this.1
      · have e : (List.map a.eval (first.toList ++ cap.toList)).drop first.size = (cap.map a.eval).toList := by
          rw [List.map_append, List.drop_append_of_le_length (by simp), List.drop_of_length_le (by simp)]; simp
        rw [← e]; exact this.2
    · cases ho
  case makeInterface t x =>
    split at ho
    · cases ho
    · rename_i u hnu hu
      injection ho with ho; injection ho with e1 e2; injection e1 with e1; subst e1; subst e2
      obtain ⟨x', rfl, hx⟩ := one hv
      simp only [pop] at h; injection h with h; subst h
      refine ⟨.iface t (a.eval x), ?_, .inr ⟨rfl, ?_⟩⟩
      · simp only [execOp, hop, Instr.makeInterface, Sem.run_bind, run_underlying hu, Result.andThen_ok]
        rfl
      · simp only [VR]; exact ⟨_, rfl, hx⟩
    · cases ho
  case typeAssert x s t ok =>
    split at ho
    · rename_i fs i _ _ z hu hi hz
      split at ho
      · rename_i cs hzero
        split at ho
        · rename_i hh
          obtain ⟨hag, rfl⟩ := hh
          injection ho with ho; injection ho with e1 e2; injection e1 with e1; subst e1; subst e2
          obtain ⟨x', rfl, hx⟩ := one hv
          obtain ⟨i', zv, hi', _, _, hz', _, _, _, hvr⟩ := elOf_ok hz
          rw [hi] at hi'; injection hi' with hi'; subst hi'
          rw [hzero] at hz'; injection hz' with hz'; subst hz'
          have hzt : TV E z (.agg cs) := .inl ⟨hag, cs.toList, hvr E, by simp⟩
          have hzr : (zeroValue t).run P w = .ok (.agg cs) w := by simp [zeroValue, typeInfo, hi, hzero]
          cases x' <;> simp only [pop] at h <;> try (cases h; done)
          case nilI =>
            injection h with h; subst h
            rcases hx with ⟨hn, _⟩ | ⟨_, hx⟩
            · cases hn
            · simp only [VR] at hx; injection hx with hx
              refine ⟨.tuple #[.agg cs, .bool false], ?_, ?_⟩
              · simp only [execOp, hop, hx, Instr.typeAssert, Sem.run_bind, run_underlying hu, Result.andThen_ok, if_true, hzr, Sem.run_pure]
              · rw [TV_tuple]; exact ⟨_, rfl, TVl_cons.2 ⟨_, _, rfl, hzt, TVl_cons.2 ⟨_, _, rfl, .inr ⟨rfl, by simp [VR]⟩, TVl_nil.2 rfl⟩⟩⟩
          case iface u v' =>
            rcases hx with ⟨hn, _⟩ | ⟨_, hx⟩
            · cases hn
            · simp only [VR] at hx
              obtain ⟨c, hx, hc⟩ := hx
              injection hx with hx
              split at h
              · rename_i hut
                subst hut
                injection h with h; subst h
                refine ⟨.tuple #[c, .bool true], ?_, ?_⟩
                · simp only [execOp, hop, hx, Instr.typeAssert, Sem.run_bind, run_underlying hu, Result.andThen_ok, if_true, Sem.run_pure]
                · rw [TV_tuple]; exact ⟨_, rfl, TVl_cons.2 ⟨_, _, rfl, hc, TVl_cons.2 ⟨_, _, rfl, .inr ⟨rfl, by simp [VR]⟩, TVl_nil.2 rfl⟩⟩⟩
              · rename_i hut
                injection h with h; subst h
                refine ⟨.tuple #[.agg cs, .bool false], ?_, ?_⟩
                · simp only [execOp, hop, hx, Instr.typeAssert, Sem.run_bind, run_underlying hu, Result.andThen_ok, if_neg hut, if_true, hzr, Sem.run_pure]
                · rw [TV_tuple]; exact ⟨_, rfl, TVl_cons.2 ⟨_, _, rfl, hzt, TVl_cons.2 ⟨_, _, rfl, .inr ⟨rfl, by simp [VR]⟩, TVl_nil.2 rfl⟩⟩⟩
        · cases ho
      · cases ho
    · cases ho
  case nilCheck x =>
    injection ho with ho; injection ho with e1 e2; injection e1 with e1; subst e1; subst e2
    obtain ⟨x', rfl, hx⟩ := one hv
    simp only [pop] at h
    have key : ∀ c : Value, a.eval x = c → (∀ p, c = .pointer (some p) → (execOp a.eval o).run P w = .ok (.value c) w) ∧ (∀ f xs ys, c = .func (.func f) xs ys → (execOp a.eval o).run P w = .ok (.value c) w) := fun c hc =>
      ⟨fun p e => by subst e; simp [execOp, hop, hc], fun f xs ys e => by subst e; simp [execOp, hop, hc]⟩
    split at h <;> first | (cases h; done) | (injection h with h; subst h)
    · have hx' := hx
      rcases hx' with ⟨hn, _⟩ | ⟨_, hx'⟩
      · cases hn
      · simp only [VR] at hx'; obtain ⟨_, b, off, _, hv'⟩ := hx'; injection hv' with hv'
        exact ⟨_, (key _ rfl).1 _ hv', hx⟩
    · have hx' := hx
      rcases hx' with ⟨hn, _⟩ | ⟨_, hx'⟩
      · cases hn
      · simp only [VR] at hx'; obtain ⟨_, _, b, off, _, hv'⟩ := hx'; injection hv' with hv'
        exact ⟨_, (key _ rfl).1 _ hv', hx⟩
    · have hx' := hx
      rcases hx' with ⟨hn, _⟩ | ⟨_, hx'⟩
      · cases hn
      · simp only [VR] at hx'; obtain ⟨_, b, off, _, hv'⟩ := hx'; injection hv' with hv'
        exact ⟨_, (key _ rfl).1 _ hv', hx⟩
    · have hx' := hx
      rcases hx' with ⟨hn, _⟩ | ⟨_, hx'⟩
      · cases hn
      · simp only [VR] at hx'; obtain ⟨b, off, _, hv', _⟩ := hx'; injection hv' with hv'
        exact ⟨_, (key _ rfl).1 _ hv', hx⟩
    · have hx' := hx
      rcases hx' with ⟨hn, _⟩ | ⟨_, hx'⟩
      · cases hn
      · simp only [VR] at hx'; obtain ⟨_, _, hv', _⟩ := hx'; injection hv' with hv'
        exact ⟨_, (key _ rfl).2 _ _ _ hv', hx⟩
  case index t x i =>
    split at ho
    · split at ho
      · injection ho with ho; injection ho with ho _; cases ho
      · cases ho
    · rename_i hu
      injection ho with ho; injection ho with e1 e2; injection e1 with e1; subst e1; subst e2
      obtain ⟨x', i', rfl, hx, hi⟩ := two hv
      cases x' <;> simp only [pop] at h <;> try (cases h; done)
      rename_i s
      cases i' <;> simp only at h <;> try (cases h; done)
      rename_i k n
      split at h
      · rename_i hh
        injection h with h; subst h
        simp only [TV_int] at hi
        have hxs : a.eval x = .string s := by
          rcases hx with ⟨hn, _⟩ | ⟨_, hx⟩
          · cases hn
          · simp only [VR] at hx; injection hx
        refine ⟨.int .u8 ((bytesI s).getD n.toNat 0), ?_, .inr ⟨rfl, by simp [VR]⟩⟩
        have hg : s[n.toNat]? = some s[n.toNat] := Go.ByteArray.getElem?_lt' s _ hh.2
        have hb : (bytesI s).getD n.toNat 0 = (s[n.toNat].toNat : Int) := by
          have hl : n.toNat < s.data.toList.length := by simpa using hh.2
          simp only [bytesI, List.getD_eq_getElem?_getD, List.getElem?_map, List.getElem?_eq_getElem hl]
          rfl
        rw [hb]
        simp [execOp, hop, hi, hxs, Instr.index, asIntOf, run_underlying hu, hh.1, hg]
      · cases h
    · cases ho
  case slice t x lo hi mx =>
    split at ho
    · rename_i hu
      injection ho with ho; injection ho with e1 e2; injection e1 with e1; subst e1; subst e2
      rw [List.map_cons] at hv
      obtain ⟨x', r, rfl, hx, hr⟩ := TVl_two hv
      cases x' <;> simp only [pop] at h <;> try (cases h; done)
      rename_i s
      have hxs : a.eval x = .string s := by
        rcases hx with ⟨hn, _⟩ | ⟨_, hx⟩
        · cases hn
        · simp only [VR] at hx; injection hx
      have run : ∀ l hh : Int, 0 ≤ l → l ≤ hh → hh ≤ s.size → ((lo.map a.eval = none ∧ l = 0) ∨ ∃ k, lo.map a.eval = some (.int k l)) → ((hi.map a.eval = none ∧ hh = s.size) ∨ ∃ k, hi.map a.eval = some (.int k hh)) →
          ∃ c, (execOp a.eval o).run P w = .ok (.value c) w ∧ TV E (.str (s.extract l.toNat hh.toNat)) c := by
        intro l hh h0 h1 h2 hl hhi
        refine ⟨.string (s.extract l.toNat hh.toNat), ?_, .inr ⟨rfl, by simp [VR]⟩⟩
        have hb := run_bounds (P := P) (w := w) (isS := false) (len := s.size) (cap := s.size) h0 h1 h2 hl hhi
        simp only [execOp, hop, hxs, Option.map_none, Instr.sliceAt, Instr.slice, Sem.run_bind, run_underlying hu, Result.andThen_ok, Option.isSome_none, Bool.false_eq_true, if_false, hb, Sem.run_pure]
      cases lo with
      | none =>
        cases hi with
        | none => simp at h
        | some y =>
          simp only [Option.toList_none, Option.toList_some, List.nil_append, List.map_cons, List.map_nil] at hr
          obtain ⟨y', r', rfl, hy, hr'⟩ := TVl_two hr
          rw [TVl_len0 hr'] at h
          cases y' <;> simp at h
          rename_i k n
          obtain ⟨⟨g1, g2⟩, rfl⟩ := h
          simp only [TV_int] at hy
          exact run 0 n (by omega) g1 g2 (.inl ⟨rfl, rfl⟩) (.inr ⟨k, by simp [hy]⟩)
      | some z =>
        cases hi with
        | none =>
          simp only [Option.toList_none, Option.toList_some, List.append_nil, List.map_cons, List.map_nil] at hr
          obtain ⟨y', r', rfl, hy, hr'⟩ := TVl_two hr
          rw [TVl_len0 hr'] at h
          cases y' <;> simp at h
          rename_i k n
          obtain ⟨⟨g1, g2⟩, rfl⟩ := h
          simp only [TV_int] at hy
          have := run n s.size g1 g2 (Int.le_refl _) (.inr ⟨k, by simp [hy]⟩) (.inl ⟨rfl, rfl⟩)
          simpa using this
        | some y =>
          simp only [Option.toList_some, List.cons_append, List.nil_append, List.map_cons, List.map_nil] at hr
          obtain ⟨z', r', rfl, hz, hr'⟩ := TVl_two hr
          obtain ⟨y', r', rfl, hy, hr'⟩ := TVl_two hr'
          rw [TVl_len0 hr'] at h
          cases z' <;> simp at h
          rename_i k n
          cases y' <;> simp at h
          rename_i k2 n2
          obtain ⟨⟨g1, g2, g3⟩, rfl⟩ := h
          simp only [TV_int] at hy hz
          exact run n n2 g1 g2 g3 (.inr ⟨k, by simp [hz]⟩) (.inr ⟨k2, by simp [hy]⟩)
    · cases ho
  case call c =>
    obtain ⟨callee, args, argTypes⟩ := c
    simp only at ho
    split at ho
    · repeat' (first | (cases ho; done) | (injection ho with ho; injection ho with ho _; cases ho; done) | split at ho)
    · rename_i _ x y hargs
      injection ho with ho; injection ho with e1 e2; injection e1 with e1; subst e1; subst e2
      obtain ⟨x', y', rfl, hx, hy⟩ := two hv
      have ea : args = #[x, y] := by rw [← Array.toArray_toList (xs := args), hargs]
      subst ea
      cases x' <;> simp only [pop] at h <;> try (cases h; done)
      rename_i k1 n1
      cases y' <;> simp only at h <;> try (cases h; done)
      rename_i k2 n2
      injection h with h; subst h
      simp only [TV_int] at hx hy
      refine ⟨_, ?_, TV_int.2 rfl⟩
      simp [execOp, hop, resolve, invoke, builtin, Builtin.min_, Builtin.min2, hx, hy]
    · rename_i _ x y hargs
      injection ho with ho; injection ho with e1 e2; injection e1 with e1; subst e1; subst e2
      obtain ⟨x', y', rfl, hx, hy⟩ := two hv
      have ea : args = #[x, y] := by rw [← Array.toArray_toList (xs := args), hargs]
      subst ea
      cases x' <;> simp only [pop] at h <;> try (cases h; done)
      rename_i k1 n1
      cases y' <;> simp only at h <;> try (cases h; done)
      rename_i k2 n2
      injection h with h; subst h
      simp only [TV_int] at hx hy
      refine ⟨_, ?_, TV_int.2 rfl⟩
      simp [execOp, hop, resolve, invoke, builtin, Builtin.max_, Builtin.max2, hx, hy]
    · cases ho
  all_goals (repeat' (first | (cases ho; done) | (injection ho with ho; injection ho with ho _; cases ho; done) | split at ho))
end
end AVL
