/- Texts of this claim, in order: Vx Vn Vq Vr Vs Vt Vta. -/
import Derived.Laws.IdiomStrings
import Derived.Test.YtkmlndihdcplfaaL1
import Derived.Laws.Strings
import Derived.MapKept
import Derived.Calls
import Derived.RangeFuncSeq
import Derived.Orders
import Derived.OrdersIn
import Derived.RangeFuncRecord
/- Further operations: bytes that are marked as text's, a text of bytes, an element of an array. -/
namespace AVL
open Go
set_option linter.unusedSimpArgs false
set_option linter.unusedVariables false

/-- Kinds of things that may be nil. -/
inductive NK where
  | ptr | fn | ifc | sl | mp
/-- Operations that look at values alone. -/
inductive POp where
  | mkF (fn : Fn) (n : Nat)
  | isNil (k : NK) (neg : Bool)
  | ifc (t : TypeId)
  | asrt (t : TypeId) (z : AV)
  | nilCk
  | strIdx
  | strSlc (lo hi : Bool)
  | mnI (mx : Bool)
def nilOf : NK → AV → Option Bool
  | .ptr, .nilP => some true
  | .ptr, .ptr .. | .ptr, .pix .. | .ptr, .pel .. | .ptr, .pval _ => some false
  | .fn, .nilF => some true
  | .fn, .func .. => some false
  | .ifc, .nilI => some true
  | .ifc, .iface .. => some false
  | .sl, .nilS => some true
  | .sl, .isl _ l => if 0 < l.length then some false else none
  | .sl, .dsl _ l => if 0 < l.length then some false else none
  | .mp, .nilM => some true
  | .mp, .map _ => some false
  | _, _ => none
def pop : POp → List AV → Option AV
  | .mkF fn n, xs => some (.func fn (xs.take n) (xs.drop n))
  | .isNil k neg, [x] => (nilOf k x).map fun b => .bool (b != neg)
  | .ifc t, [x] => some (.iface t x)
  | .asrt t z, [.nilI] => some (.tuple [z, .bool false])
  | .asrt t z, [.iface u v] => if u = t then some (.tuple [v, .bool true]) else some (.tuple [z, .bool false])
  | .nilCk, [x] => match x with
    | .ptr .. | .pix .. | .pel .. | .pval _ | .func (.func _) _ _ => some x
    | _ => none
  | .strIdx, [.str s, .int _ n] => if 0 ≤ n ∧ n.toNat < s.size then some (.int .u8 ((bytesI s).getD n.toNat 0)) else none
  | .strSlc lo hi, x :: r => match x with
    | .str s => match lo, hi, r with
      | true, true, [.int _ l, .int _ h] => if 0 ≤ l ∧ l ≤ h ∧ h ≤ s.size then some (.str (s.extract l.toNat h.toNat)) else none
      | true, false, [.int _ l] => if 0 ≤ l ∧ l ≤ s.size then some (.str (s.extract l.toNat s.size)) else none
      | false, true, [.int _ h] => if 0 ≤ h ∧ h ≤ s.size then some (.str (s.extract 0 h.toNat)) else none
      | _, _, _ => none
    | _ => none
  | .mnI mx, [.int k a, .int _ b] => some (.int k (if mx then (if b > a then b else a) else (if b < a then b else a)))
  | _, _ => none
inductive XOp where
  | p (o : POp)
  | sealB
  | strB (e : TypeId)
  | bstr
  | idxV (m sz : Nat) (sh : Sh)
  | appZ (e : TypeId) (k : IntKind) (bytes : Nat)
  | cpI (k : IntKind)
  | clr (sz : Nat) (z : AV)
  | mkM (k : IntKind)
  | upM (k : IntKind)
  | lkM (k : IntKind) (z : AV) (ok : Bool)
def XOp.floats : XOp → Bool
  | .strB _ | .appZ .. | .cpI _ | .clr .. | .mkM _ | .upM _ | .lkM .. => false
  | _ => true
def XOp.reads : XOp → Bool
  | .bstr | .sealB => true
  | _ => false
def strOf (l : List Int) : ByteArray := ⟨(l.map fun n => UInt8.ofNat n.toNat).toArray⟩
def isU8 (P : Program) (e : TypeId) : Bool := match P.underlying e with
  | some (.int .u8) => true
  | _ => false
theorem isU8_ok {P : Program} {e : TypeId} (h : isU8 P e = true) : P.underlying e = some (.int .u8) := by
  unfold isU8 at h
  split at h
  · assumption
  · cases h
def AV.isSl : AV → Bool
  | .nilS | .isl .. | .own .. | .asl .. => true
  | _ => false
/-- Entries by their keys. -/
def getM : List (Int × AV) → Int → Option AV
  | [], _ => none
  | (m, v) :: r, n => if n = m then some v else getM r n
def putM : List (Int × AV) → Int → AV → List (Int × AV)
  | [], n, v => [(n, v)]
  | (m, u) :: r, n, v => if n = m then (n, v) :: r else (m, u) :: putM r n v
def lkV (z : AV) (ok : Bool) (o : Option AV) : AV := if ok then .tuple [o.getD z, .bool o.isSome] else o.getD z
def xop (o : XOp) (xs : List AV) (A : Heap) (K : AV → Heap → Prop) : Prop :=
  match o, xs with
  | .p o, xs => match pop o xs with
    | some v => K v A
    | none => False
  | .sealB, [x] => match x with
    | .own g i n => 0 < n ∧ match A g with
      | some (.irow _ k l) => i + n ≤ l.length ∧ K (.own g i n) A
      | _ => False
    | _ => False
  | .strB e, [x] => match x with
    | .str s => ∀ g, A g = none → K (.own g 0 s.size) (A.set g (.irow e .u8 (bytesI s)))
    | _ => False
  | .bstr, [x] => x.isSl = true ∧ srcI .u8 x A fun l => K (.str (strOf l)) A
  | .idxV m sz sh, [x, i] => match i with
    | .int _ n => x.isAgg = true ∧ 0 ≤ n ∧ n < m ∧ match getC (comps x) (n.toNat * sz) sz sh with
      | some v => K v A
      | none => False
    | _ => False
  | .appZ e k bytes, [d, s] => aappZ e k bytes d s A K
  | .cpI k, [d, s] => acopy k d s A K
  | .clr sz z, [d] => aclr sz z d A K
  | .mkM k, [] => ∀ g, A g = none → K (.map g) (A.set g (.mp k []))
  | .upM kd, [m, x, v] => match m, x with
    | .map g, .int k n => k = kd ∧ match A g with
      | some (.mp k' l) => k' = kd ∧ K .undef (A.set g (.mp kd (putM l n v)))
      | _ => False
    | _, _ => False
  | .lkM kd z ok, [m, x] => match x with
    | .int k n => k = kd ∧ match m with
      | .nilM => K (lkV z ok none) A
      | .map g => (match A g with
        | some (.mp k' l) => k' = kd ∧ K (lkV z ok (getM l n)) A
        | _ => False)
      | _ => False
    | _ => False
  | _, _ => False
def nkOf (P : Program) (t : TypeId) (c : Value) : Option NK := match P.underlying t, c with
  | some (.pointer _), .pointer none => some .ptr
  | some (.func ..), .nilFunc => some .fn
  | some (.interface _), .nilIface => some .ifc
  | some (.slice _), .slice none 0 0 => some .sl
  | some (.map ..), .map none => some .mp
  | _, _ => none
def zKind (P : Program) (e : TypeId) : Option Bool := match P.info? e with
  | some i => match i.zero with
    | some (.agg _) => some true
    | some (.int ..) | some (.bool _) | some (.string _) => some false
    | _ => none
  | none => none
def trX (P : Program) (o : Op) : Option (XOp × List Operand) :=
  match o with
  | .binOp op t x y _ => match y with
    | .const c => match nkOf P t c with
      | some k => match op with
        | .eql => some (.p (.isNil k false), [x])
        | .neq => some (.p (.isNil k true), [x])
        | _ => none
      | none => none
    | _ => none
  | .makeFunc fn first cap => match fn with
    | .func f => some (.p (.mkF (.func f) first.size), first.toList ++ cap.toList)
    | _ => none
  | .makeInterface t x => match P.underlying t with
    | some (.interface _) => none
    | some _ => some (.p (.ifc t), [x])
    | none => none
  | .typeAssert x _ t ok => match P.underlying t, P.info? t, elOf P t with
    | some (.struct _), some i, some (_, _, z) => match i.zero with
      | some (.agg _) => if z.isAgg = true ∧ ok = true then some (.p (.asrt t z), [x]) else none
      | _ => none
    | _, _, _ => none
  | .convert s t x => match P.underlying s, P.underlying t with
    | some (.slice e), some (.slice _) => if s = t ∧ isU8 P e = true then some (.sealB, [x]) else none
    | some (.slice e), some .string => if isU8 P e = true then some (.bstr, [x]) else none
    | some .string, some (.slice e) => if isU8 P e = true then some (.strB e, [x]) else none
    | _, _ => none
  | .index t x i => match P.underlying t with
    | some (.array m e) => match shOf P e with
      | some (sh, sz) => some (.idxV m sz sh, [x, i])
      | none => none
    | some .string => some (.p .strIdx, [x, i])
    | _ => none
  | .nilCheck x => some (.p .nilCk, [x])
  | .makeMap t r => match r, P.underlying t with
    | none, some (.map k _) => (intK P k).map fun kd => (.mkM kd, [])
    | _, _ => none
  | .mapUpdate t m x v => match P.underlying t with
    | some (.map k _) => (intK P k).map fun kd => (.upM kd, [m, x, v])
    | _ => none
  | .lookup t m x ok => match P.underlying t with
    | some (.map k e) => match intK P k, elOf P e with
      | some kd, some (_, _, z) => if zKind P e = some z.isAgg then some (.lkM kd z ok, [m, x]) else none
      | _, _ => none
    | _ => none
  | .slice t x lo hi mx => match P.underlying t, mx with
    | some .string, none => some (.p (.strSlc lo.isSome hi.isSome), x :: (lo.toList ++ hi.toList))
    | _, _ => none
  | .call c => match c.callee, c.args.toList, c.argTypes.toList with
    | .builtin .append, [d, s], [t, u] => match P.underlying t, P.underlying u with
      | some (.slice e), some (.int _) => match elOf P e, intK P e with
        | some (sz, bytes, .int k n), some k' => if sz = 1 ∧ n = 0 ∧ k = k' then some (.appZ e k bytes, [d, s]) else none
        | _, _ => none
      | _, _ => none
    | .builtin .copy, [d, s], [t, u] => match P.underlying t with
      | some (.slice e) => match elOf P e, intK P e with
        | some (sz, _, _), some k => if sz = 1 then some (.cpI k, [d, s]) else none
        | _, _ => none
      | _ => none
    | .builtin .clear, [d], [t] => match P.underlying t with
      | some (.slice e) => match elOf P e with
        | some (sz, _, z) => if z.st = true then some (.clr sz z, [d]) else none
        | none => none
      | _ => none
    | .builtin .min, [x, y], _ => some (.p (.mnI false), [x, y])
    | .builtin .max, [x, y], _ => some (.p (.mnI true), [x, y])
    | _, _, _ => none
  | _ => none

section
variable {P : Program} {w : World} {E : Emb} {A : Heap} {K : AV → Heap → Prop} {a : Act}

/-- The embedding with one block more that stays as it is. -/
def Emb.hold (E : Emb) (b : Nat) (o : Obj) : Emb := { E with F := fun x => if x = b then some o else E.F x }
theorem Emb.hold_le (E : Emb) {b : Nat} (o : Obj) (h : E.F b = none) : E.Le (E.hold b o) :=
  ⟨Nat.le_refl _, fun _ _ => rfl, fun x y hx => by
    simp only [Emb.hold]
    split
    · rename_i e; subst e; rw [h] at hx; cases hx
    · exact hx, rfl, fun _ _ h => h⟩
theorem Rep.hold (hR : Rep E A w) {b : Nat} {o : Obj} {w' : World} (hF : E.F b = none) (hb : w'.heap[b]? = some o) (hw : ∀ x, x ≠ b → w'.heap[x]? = w.heap[x]?)
    (hA : ∀ g c b' off, A g = some c → (E.loc g).addr = some (b', off) → b' ≠ b) (hH : E.H b = none) : Rep (E.hold b o) A w' := by
  refine ⟨fun x y hx => ?_, hR.lt, fun g c hg => ?_, hR.sep, hR.low, hR.lon, fun x y hx => ?_⟩
  · simp only [Emb.hold] at hx
    split at hx
    · rename_i e; subst e; injection hx with hx; subst hx; exact hb
    · rename_i hne; rw [hw x hne]; exact hR.frm x y hx
  · refine RepC_mono (E.hold_le o hF) (hR.lt g c hg) (hR.cont g c hg) (fun b' off ha => ?_) (fun b' off ha => hw b' (hA g c b' off hg ha))
    have hne := hA g c b' off hg ha
    simp only [Emb.hold, if_neg hne]
    exact (hR.blk hg ha).2
  · have h1 := hR.hid x y hx
    have hne : x ≠ b := fun e => by
      subst e
      have hx' : E.H x = some y := hx
      rw [hH] at hx'; cases hx'
    refine ⟨by rw [hw x hne]; exact h1.1, ?_, h1.2.2⟩
    simp only [Emb.hold, if_neg hne]
    exact h1.2.1

theorem run_mark {b off : Nat} {C : Array Value} {t : TypeId} {fz : Nat × Nat} (hb : w.heap[b]? = some (.cells C t fz)) :
    (markStringish (pA b off)).run P w = .ok () (w.freeze { block := b, off := C.size } 1) := by
  simp [markStringish, pA, shape, World.shape?, hb, freeze, Sem.run]
theorem Blk.freeze {b : Nat} {C : Array Value} {t : TypeId} (h : Blk w b C t) : Blk (w.freeze { block := b, off := C.size } 1) b C t := by
  obtain ⟨⟨lo, hi⟩, hb, hk⟩ := h
  have hlt := (Array.getElem?_eq_some_iff.1 hb).1
  refine ⟨if lo == hi then (C.size, C.size + 1) else (min lo C.size, max hi (C.size + 1)), ?_, .inl ?_⟩
  · simp [World.freeze, Array.getElem?_modify, hb]
  · simp only at hk
    by_cases e : lo = hi
    · simp [e]
    · have : ¬ (lo == hi) = true := by simpa using e
      rw [if_neg this]; simp only; omega
theorem freeze_ne {b x n k : Nat} (h : x ≠ b) : (w.freeze { block := b, off := n } k).heap[x]? = w.heap[x]? := by
  unfold World.freeze
  split
  · rfl
  · simp [Array.getElem?_modify, Ne.symm h]
/-- What an operation's run must be that changes nothing that is told of memory. -/
def ResW (E : Emb) (A : Heap) (w : World) (K : AV → Heap → Prop) (r : Result Next) : Prop := ∃ v c w', K v A ∧ r = .ok (.value c) w' ∧ Rep E A w' ∧ Same w w' ∧ TV E v c
theorem ResV.wk {r : Result Next} (h : ResV E A w K r) (hR : Rep E A w) : ResW E A w K r := by
  obtain ⟨v, c, hk, rfl, hv⟩ := h
  exact ⟨v, c, w, hk, rfl, hR, Same.refl w, hv⟩
theorem ResW.res {r : Result Next} (h : ResW E A w K r) : Res E w K r := by
  obtain ⟨v, c, w', hk, rfl, hR, hS, hv⟩ := h
  exact ⟨v, A, E, w', hk, hR, Emb.Le.refl E, hS, .inl ⟨c, rfl, hv⟩⟩
theorem seal_ok {s t e e' : TypeId} {x : AV} {c : Value} (hR : Rep E A w) (h1 : P.underlying s = some (.slice e)) (h2 : P.underlying t = some (.slice e')) (hst : s = t) (he : P.underlying e = some (.int .u8))
    (hx : TV E x c) (h : xop .sealB [x] A K) : ResW E A w K ((do pure (Next.value (← convert s t c)) : Sem Next).run P w) := by
  subst hst
  rw [h1] at h2; injection h2 with h2; injection h2 with h2; subst h2
  simp only [xop] at h
  split at h
  · rename_i g i n
    obtain ⟨hn, h⟩ := h
    split at h
    · rename_i tt k l hA
      obtain ⟨hin, hk⟩ := h
      have hc := hR.cont g _ hA
      obtain ⟨hg, ad, cap, rfl, hcap, hroom, hloc⟩ := TV_own.1 hx
      obtain ⟨hsz, hlr, hcs⟩ := id hc
      rcases hcs with ⟨hn0, hr0⟩ | ⟨b, off, C, ha, hF, hb, hC, hcs⟩
      · exfalso; omega
      · rcases hloc with h0 | ⟨b', off', ha', rfl⟩
        · exfalso; omega
        · rw [ha] at ha'; injection ha' with ha'; injection ha' with e1 e2; subst e1; subst e2
          have hx' := hx
          rw [hsz, Nat.mul_one] at hx' ⊢
          have hrun : (convert s s (.slice (some (pA b (off + i))) n cap)).run P w = .ok (.slice (some (pA b (off + i))) n cap) (w.freeze { block := b, off := C.size } 1) := by
            obtain ⟨fz, hb', _⟩ := hb
            simp only [convert, Sem.run_bind, run_underlying h1, Result.andThen_ok, he, beq_self_eq_true, run_mark hb', run_underlying he]
            rfl
          simp only [Sem.run_bind, hrun, Result.andThen_ok, Sem.run_pure]
          have hsame : A.set g (.irow tt k l) = A := by
            funext x; simp only [Heap.set]; split
            · rename_i e; subst e; exact hA.symm
            · rfl
          have hR' := hR.change (c' := .irow tt k l) hA ha (w' := w.freeze { block := b, off := C.size } 1) (fun x hx => freeze_ne hx) ⟨hsz, hlr, .inr ⟨b, off, C, ha, hF, hb.freeze, hC, hcs⟩⟩
          rw [hsame] at hR'
          refine ⟨_, _, _, hk, rfl, hR', ?_, hx'⟩
          refine ⟨?_, ?_, ?_⟩ <;> simp [World.freeze]
    · exact h.elim
  · exact h.elim
theorem idxV_ok {t e : TypeId} {m sz : Nat} {sh : Sh} {x i : AV} {c d : Value} (hR : Rep E A w) (ht : P.underlying t = some (.array m e)) (hs : shOf P e = some (sh, sz)) (hx : TV E x c) (hi : TV E i d)
    (h : xop (.idxV m sz sh) [x, i] A K) : ResV E A w K ((do pure (Next.value (← Instr.index t c d)) : Sem Next).run P w) := by
  simp only [xop] at h
  split at h
  · rename_i k n
    simp only [TV_int] at hi; subst hi
    obtain ⟨hag, h0, hm, h⟩ := h
    split at h
    · rename_i v hget
      rcases hx with ⟨_, xs, hv, rfl⟩ | ⟨hna, _⟩
      · have hvs := VR_comps hv
        obtain ⟨c', hrun, hd⟩ := run_part (w := w) hs (getC_len hvs hget)
        have hsz := (shOf_run (w := w) hs).2.1
        simp only [Instr.index, Sem.run_bind, asIntOf, Sem.run_pure, run_underlying ht w, Result.andThen_ok, h0, hm, and_self, if_true, hsz, hrun]
        exact Res.val hR h (getC_ok hvs hget hd)
      · rw [hag] at hna; cases hna
    · exact h.elim
  · exact h.elim

theorem run_bytes (g : Value → ByteArray → Sem (ForInStep ByteArray)) (hg : ∀ n r, g (.int .u8 n) r = pure (ForInStep.yield (r.push (UInt8.ofNat n.toNat)))) (f : List Int) (s : ByteArray) :
    (forIn ((f.map (Value.int .u8)).toArray) s g).run P w = .ok ⟨s.data ++ (f.map fun n => UInt8.ofNat n.toNat).toArray⟩ w := by
  rw [List.forIn_toArray]
  induction f generalizing s with
  | nil => simp
  | cons n r ih =>
    simp only [List.map_cons, List.forIn_cons, hg, Sem.run_bind, Sem.run_pure, Result.andThen_ok, ih]
    congr 1
    apply ByteArray.ext
    simp [ByteArray.push]
theorem bstr_ok {s t e : TypeId} {x : AV} {c : Value} (hR : Rep E A w) (h1 : P.underlying s = some (.slice e)) (h2 : P.underlying t = some .string) (he : P.underlying e = some (.int .u8))
    (hx : TV E x c) (h : xop .bstr [x] A K) : ResV E A w K ((do pure (Next.value (← convert s t c)) : Sem Next).run P w) := by
  simp only [xop] at h
  obtain ⟨hsl, h⟩ := h
  obtain ⟨vs, cs, ⟨ys, rfl, hk⟩, hr⟩ := srcG_ok (P := P) hR hx (srcI_G h)
  have hcs : cs = ys.map (Value.int .u8) := by
    have := hr.cells
    clear hr hk h
    induction ys generalizing cs with
    | nil => simpa [VRe] using this
    | cons y r ih =>
      simp only [List.map_cons, VRe] at this
      obtain ⟨c1, c2, rfl, _, h3, h4⟩ := this
      simp only [VR] at h3
      subst h3
      rw [ih c2 h4]; rfl
  subst hcs
  have hc : ∃ ad n cap, c = .slice ad n cap := by
    cases x <;> simp only [AV.isSl, Bool.false_eq_true] at hsl
    · simp only [TV_nilS] at hx; exact ⟨_, _, _, hx⟩
    · rcases hx with ⟨h, _⟩ | ⟨_, h⟩
      · cases h
      · simp only [VR] at h; obtain ⟨a, cap, h, _⟩ := h; injection h with h; exact ⟨_, _, _, h⟩
    · obtain ⟨_, a, cap, h, _⟩ := TV_own.1 hx; exact ⟨_, _, _, h⟩
    · obtain ⟨_, _, a, h, _⟩ := TV_asl.1 hx; exact ⟨_, _, _, h⟩
  obtain ⟨ad, n, cap, rfl⟩ := hc
  have hlen := hr.len
  have hf := hr.first w (ys.map (AV.int .u8)).length rfl (Nat.le_refl _)
  simp only [Builtin.lenOf, Sem.run_pure] at hlen
  injection hlen with hlen _
  simp only [List.length_map, Nat.mul_one] at hf hlen
  have hdo : (Conv.bytesToString (.slice ad n cap)).run P w = .ok (.string (strOf ys)) w := by
    cases ad with
    | none =>
      simp only [Builtin.firstCells, Sem.run_pure] at hf
      injection hf with hf _
      have : ys = [] := by
        have h2 := congrArg Array.size hf
        simp at h2
        exact List.eq_nil_of_length_eq_zero (by omega)
      subst this
      rfl
    | some ad =>
      simp only [Builtin.firstCells, Nat.mul_one] at hf
      unfold Conv.bytesToString
      subst hlen
      simp only [Sem.run_bind, hf, Result.andThen_ok, Sem.run_pure]
      have e : (List.take ys.length (ys.map (Value.int .u8))) = ys.map (Value.int .u8) := by rw [List.take_of_length_le (by simp)]
      rw [e]
      rw [run_bytes _ (fun n r => rfl) ys ByteArray.empty]
      simp [strOf]
  have hcv : (convert s t (.slice ad n cap)).run P w = .ok (.string (strOf ys)) w := by
    simp only [convert, Sem.run_bind, run_underlying h1, run_underlying h2, Result.andThen_ok, run_underlying he]
    exact hdo
  simp only [Sem.run_bind, hcv, Result.andThen_ok, Sem.run_pure]
  exact Res.val hR hk (.inr ⟨rfl, by simp [VR]⟩)
/-! maps -/
theorem intK_ok {e : TypeId} {k : IntKind} (h : intK P e = some k) : P.underlying e = some (.int k) := by
  unfold intK at h
  split at h
  · injection h with h; subst h; assumption
  · cases h
theorem zero_TV {e : TypeId} {sz by' : Nat} {z : AV} (h : elOf P e = some (sz, by', z)) (hk : zKind P e = some z.isAgg) : ∃ zv, (zeroValue e).run P w = .ok zv w ∧ TV E z zv := by
  obtain ⟨i, zv, hi, _, _, hz, _, _, _, hv⟩ := elOf_ok h
  refine ⟨zv, by simp [zeroValue, typeInfo, hi, hz], ?_⟩
  have hvE := hv E
  simp only [zKind, hi, hz] at hk
  cases zv <;> simp only [reduceCtorEq] at hk <;> injection hk with hk
  case agg => exact .inl ⟨hk.symm, _, hvE, by simp [Value.cells]⟩
  case int => exact .inr ⟨hk.symm, hvE⟩
  case bool => exact .inr ⟨hk.symm, hvE⟩
  case string => exact .inr ⟨hk.symm, hvE⟩
theorem TVl_app : ∀ {l m : List AV} {cs ds : List Value}, TVl E l cs → TVl E m ds → TVl E (l ++ m) (cs ++ ds)
  | [], m, cs, ds, h, h' => by rw [TVl_nil] at h; subst h; exact h'
  | v :: r, m, cs, ds, h, h' => by
    obtain ⟨c, cr, rfl, h1, h2⟩ := TVl_cons.1 h
    exact TVl_cons.2 ⟨c, _, rfl, h1, TVl_app h2 h'⟩
theorem modify_mid {α : Type} (f : α → α) (e : α) (e2 : List α) : ∀ e1 : List α, (e1 ++ e :: e2).modify e1.length f = e1 ++ f e :: e2
  | [] => rfl
  | x :: r => by simp [modify_mid f e e2 r]
theorem findM {k : IntKind} {n : Int} : ∀ (l : List (Int × AV)) (es : List MapEntry) (i : Nat), es.map (fun e : MapEntry => e.key) = l.map (fun p => Value.int k p.1) → TVl E (l.map fun p => p.2) (es.map fun e : MapEntry => e.val) →
    (getM l n = none ∧ Instr.findNow (.int k) (.int k n) es i = some none ∧ ∀ v, putM l n v = l ++ [(n, v)]) ∨
    ∃ l1 p l2 e1 e e2, l = l1 ++ p :: l2 ∧ es = e1 ++ e :: e2 ∧ e1.length = l1.length ∧ p.1 = n ∧ Instr.findNow (.int k) (.int k n) es i = some (some (i + e1.length, e.val)) ∧ getM l n = some p.2 ∧ ∀ v, putM l n v = l1 ++ (n, v) :: l2
  | [], es, i, hk, hv => by
    have : es = [] := by simpa using hk
    subst this
    exact .inl ⟨rfl, rfl, fun _ => rfl⟩
  | p :: r, [], i, hk, hv => by simp at hk
  | (m, u) :: r, e :: es, i, hk, hv => by
    simp only [List.map_cons, List.cons.injEq] at hk
    obtain ⟨c, cr, e0, hu, hr⟩ := TVl_cons.1 hv
    simp only [List.map_cons, List.cons.injEq] at e0
    obtain ⟨rfl, rfl⟩ := e0
    by_cases hm : n = m
    · subst hm
      refine .inr ⟨[], (n, u), r, [], e, es, rfl, rfl, rfl, rfl, ?_, by simp [getM], fun v => by simp [putM]⟩
      simp [Instr.findNow, Instr.sameNow, hk.1]
    · have hf : Instr.findNow (.int k) (.int k n) (e :: es) i = Instr.findNow (.int k) (.int k n) es (i + 1) := by
        have hb : (n == m) = false := by simp [hm]
        simp [Instr.findNow, Instr.sameNow, hk.1, hb]
      rw [hf]
      rcases findM r es (i + 1) hk.2 hr with ⟨h1, h2, h3⟩ | ⟨l1, p, l2, e1, e', e2, h1, h2, h3, h4, h5, h6, h7⟩
      · exact .inl ⟨by simp [getM, hm, h1], h2, fun v => by simp [putM, hm, h3]⟩
      · refine .inr ⟨(m, u) :: l1, p, l2, e :: e1, e', e2, by rw [h1]; rfl, by rw [h2]; rfl, by simp [h3], h4, ?_, by simp [getM, hm, h6], fun v => by simp [putM, hm, h7]⟩
        rw [h5]
        simp; omega
theorem TVl_split : ∀ {l1 l2 : List AV} {cs : List Value}, TVl E (l1 ++ l2) cs → ∃ c1 c2, cs = c1 ++ c2 ∧ c1.length = l1.length ∧ TVl E l1 c1 ∧ TVl E l2 c2
  | [], l2, cs, h => ⟨[], cs, rfl, rfl, TVl_nil.2 rfl, h⟩
  | v :: r, l2, cs, h => by
    obtain ⟨c, cr, rfl, h1, h2⟩ := TVl_cons.1 h
    obtain ⟨c1, c2, rfl, h3, h4, h5⟩ := TVl_split h2
    exact ⟨c :: c1, c2, rfl, by simp [h3], TVl_cons.2 ⟨c, c1, rfl, h1, h4⟩, h5⟩
theorem mkM_ok {t k e : TypeId} {kd : IntKind} (hR : Rep E A w) (h : xop (.mkM kd) [] A K) :
    Res E w K ((do pure (Next.value (← Instr.makeMap t none)) : Sem Next).run P w) := by
  simp only [xop] at h
  have hrun : (do pure (Next.value (← Instr.makeMap t none)) : Sem Next).run P w = .ok (.value (.map (some w.heap.size))) (w.alloc (.map #[] 0)) := rfl
  rw [hrun]
  have hF : E.F w.heap.size = none := by
    cases hF : E.F w.heap.size with
    | none => rfl
    | some o => exact absurd (Array.getElem?_eq_some_iff.1 (hR.frm _ _ hF)).1 (Nat.lt_irrefl _)
  refine ⟨.map E.N, A.set E.N (.mp kd []), E.push ⟨some (w.heap.size, 0), 1, 0⟩, _, h _ hR.fresh, hR.alloc _ _ 0 rfl _ ?_, E.push_le _, Same.alloc _ _, .inl ⟨_, rfl, .inr ⟨rfl, ?_⟩⟩⟩
  · exact ⟨w.heap.size, #[], 0, by rw [Emb.push_loc], hF, by rw [heap_alloc_eq]; simp, rfl, TVl_nil.2 rfl⟩
  · simp only [VR]
    exact ⟨Nat.lt_succ_self _, w.heap.size, 0, by rw [Emb.push_loc], rfl⟩
theorem strB_ok {s t e : TypeId} {x : AV} {c : Value} (hR : Rep E A w) (h1 : P.underlying s = some .string) (h2 : P.underlying t = some (.slice e)) (he : P.underlying e = some (.int .u8))
    (hx : TV E x c) (h : xop (.strB e) [x] A K) : Res E w K ((do pure (Next.value (← convert s t c)) : Sem Next).run P w) := by
  simp only [xop] at h
  split at h
  · rename_i str
    simp only [TV_str] at hx; subst hx
    have hrun := run_bytes_of_string (P := P) w s t e str h1 h2 he
    obtain ⟨cap, hcap⟩ : ∃ cap, grownCap w str.size 0 e = cap := ⟨_, rfl⟩
    have hle : str.size ≤ cap := by rw [← hcap]; exact grownCap_ge _ _ _ _
    rw [hcap] at hrun
    simp only [Sem.run_bind, hrun, Result.andThen_ok, Sem.run_pure]
    have hF : E.F w.heap.size = none := by
      cases hF : E.F w.heap.size with
      | none => rfl
      | some o => exact absurd (Array.getElem?_eq_some_iff.1 (hR.frm _ _ hF)).1 (Nat.lt_irrefl _)
    obtain ⟨C, hC⟩ : ∃ C, bytesRow str cap = C := ⟨_, rfl⟩
    rw [hC]
    have hR' := hR.alloc (.cells C e (C.size, C.size + 1)) ⟨some (w.heap.size, 0), 1, cap⟩ 0 rfl (.irow e .u8 (bytesI str)) ⟨by rw [Emb.push_loc], by rw [Emb.push_loc]; simpa [bytesI] using hle, .inr ⟨w.heap.size, 0, C, by rw [Emb.push_loc], hF, ⟨(C.size, C.size + 1), by rw [heap_alloc_eq]; simp, .inl (Nat.le_refl _)⟩, by rw [Emb.push_loc, ← hC]; simp [bytesRow]; omega, fun j hj => by
      have hl : (bytesI str).length = str.size := by simp [bytesI]
      rw [hl] at hj
      have hj' : j < str.data.size := hj
      rw [← hC]
      simp only [bytesRow, bytesI]
      rw [Array.getElem?_append_left (by simpa using hj')]
      simp [hj', List.getD_eq_getElem?_getD, Array.getElem?_eq_getElem hj']⟩⟩
    refine ⟨_, _, E.push ⟨some (w.heap.size, 0), 1, cap⟩, w.drew.alloc (.cells C e (C.size, C.size + 1)), h _ hR.fresh, ⟨hR'.frm, hR'.lt, fun g c hg => ?_, hR'.sep, hR'.low, hR'.lon, hR'.hid⟩, E.push_le _, ⟨rfl, rfl, ?_⟩, .inl ⟨_, rfl, ?_⟩⟩
    · have := hR'.cont g c hg
      cases c <;> exact this
    · show w.heap.size ≤ (w.heap.push _).size
      simp
    · refine .inr ⟨rfl, ?_⟩
      simp only [VR]
      refine ⟨Nat.lt_succ_self _, some (pA w.heap.size 0), cap, rfl, hle, by rw [Emb.push_loc]; simp, .inr ⟨w.heap.size, 0, by rw [Emb.push_loc], by rw [Emb.push_loc, Nat.zero_mul, Nat.add_zero]⟩⟩
  · exact h.elim
theorem TV_map {g : Nat} {c : Value} (h : TV E (.map g) c) : ∃ b off, (E.loc g).addr = some (b, off) ∧ c = .map (some b) := by
  rcases h with ⟨hn, _⟩ | ⟨_, h⟩
  · cases hn
  · simp only [VR] at h
    obtain ⟨_, b, off, h1, h2⟩ := h
    injection h2 with h2
    exact ⟨b, off, h1, h2⟩
theorem upM_ok {t k e : TypeId} {kd : IntKind} {m x v : AV} {cm cx cv : Value} (hR : Rep E A w) (ht : P.underlying t = some (.map k e)) (hk : intK P k = some kd) (hm : TV E m cm) (hx : TV E x cx) (hv : TV E v cv)
    (h : xop (.upM kd) [m, x, v] A K) : Res E w K ((do Instr.mapUpdate t cm cx cv; pure Next.skip : Sem Next).run P w) := by
  have hku := intK_ok hk
  simp only [xop] at h
  split at h
  · rename_i g kk n
    obtain ⟨rfl, h⟩ := h
    simp only [TV_int] at hx; subst hx
    split at h
    · rename_i k' l hA
      obtain ⟨rfl, h⟩ := h
      obtain ⟨b, off, ha, rfl⟩ := TV_map hm
      obtain ⟨b', es, ck, ha', hF, hb, hkeys, hvals⟩ := hR.cont g _ hA
      rw [ha'] at ha; injection ha with ha; injection ha with e1 e2; subst e1; subst e2
      have hkey : MapKept.IsKey (.int k') (.int k' n) := rfl
      have fin : ∀ (es' : Array MapEntry) (ck' : Nat), es'.toList.map (fun e : MapEntry => e.key) = (putM l n v).map (fun p => Value.int k' p.1) → TVl E ((putM l n v).map fun p => p.2) (es'.toList.map fun e : MapEntry => e.val) →
          Rep E (A.set g (.mp k' (putM l n v))) { w with heap := w.heap.setIfInBounds b' (.map es' ck') } := by
        intro es' ck' h1 h2
        obtain ⟨s1, s2⟩ := MapKept.heap_set (o' := .map es' ck') hb
        refine hR.change hA ha' (fun x hx => s2 x hx) ?_
        exact ⟨b', es', ck', ha', hF, s1, h1, h2⟩
      have same : ∀ o : Obj, Same w { w with heap := w.heap.setIfInBounds b' o } := fun o => ⟨rfl, rfl, by simp⟩
      rcases findM (n := n) l es.toList 0 hkeys hvals with ⟨h1, h2, h3⟩ | ⟨l1, p, l2, e1, e', e2, h1, h2, h3, h4, h5, h6, h7⟩
      · have hrun : (Instr.mapUpdate t (.map (some b')) (.int k' n) cv).run P w = .ok () { w with heap := w.heap.setIfInBounds b' (.map (es.push { key := .int k' n, val := cv, born := ck }) (ck + 1)) } := by
          simp [Instr.mapUpdate, run_underlying ht, MapKept.run_getObj_map hb, MapKept.run_checkKey hku hkey, MapKept.run_findKey hku h2, MapKept.run_setObj_map _ hb, Result.andThen]
        simp only [Sem.run_bind, hrun, Result.andThen_ok, Sem.run_pure]
        refine ⟨_, _, E, _, h, fin _ _ ?_ ?_, Emb.Le.refl E, same _, .inr ⟨rfl, rfl⟩⟩
        · rw [h3 v]; simp [hkeys]
        · rw [h3 v]
          simp only [Array.toList_push, List.map_append, List.map_cons, List.map_nil]
          exact TVl_app hvals (TVl_cons.2 ⟨cv, [], rfl, hv, TVl_nil.2 rfl⟩)
      · have hj : es[e1.length]? = some e' := by
          rw [← Array.getElem?_toList, h2]; simp
        have hek : e'.key = .int k' n := by
          have := congrArg (fun l => l[e1.length]?) hkeys
          simp only [h2, h1] at this
          rw [List.map_append, List.map_append, List.getElem?_append_right (by simp), List.getElem?_append_right (by simp [h3])] at this
          simp [h3, h4] at this
          exact this
        have hrun : (Instr.mapUpdate t (.map (some b')) (.int k' n) cv).run P w = .ok () { w with heap := w.heap.setIfInBounds b' (.map (es.modify e1.length fun e => { e with key := .int k' n, val := cv }) ck) } := by
          have h5' : Instr.findNow (.int k') (.int k' n) es.toList 0 = some (some (e1.length, e'.val)) := by rw [h5]; simp
          simp [Instr.mapUpdate, run_underlying ht, MapKept.run_getObj_map hb, MapKept.run_checkKey hku hkey, MapKept.run_findKey hku h5', hj, hek, MapKept.run_keyThatStays hkey, MapKept.run_setObj_map _ hb, Result.andThen]
        simp only [Sem.run_bind, hrun, Result.andThen_ok, Sem.run_pure]
        have hmod : (es.modify e1.length fun e => { e with key := .int k' n, val := cv }).toList = e1 ++ { e' with key := .int k' n, val := cv } :: e2 := by
          rw [Array.toList_modify, h2, modify_mid]
        refine ⟨_, _, E, _, h, fin _ _ ?_ ?_, Emb.Le.refl E, same _, .inr ⟨rfl, rfl⟩⟩
        · rw [h7 v, hmod]
          rw [h2, h1] at hkeys
          simp only [List.map_append, List.map_cons] at hkeys ⊢
          obtain ⟨a1, a2⟩ := List.append_inj hkeys (by simp [h3])
          injection a2 with _ a3
          rw [a1, a3]
        · rw [h7 v, hmod]
          rw [h2, h1] at hvals
          simp only [List.map_append, List.map_cons] at hvals ⊢
          obtain ⟨c1, c2, ec, hl, t1, t2⟩ := TVl_split hvals
          obtain ⟨d, dr, rfl, _, t3⟩ := TVl_cons.1 t2
          obtain ⟨a1, a2⟩ := List.append_inj ec (by simp [hl, h3])
          injection a2 with _ a3
          rw [a1, a3]
          exact TVl_app t1 (TVl_cons.2 ⟨cv, dr, rfl, hv, t3⟩)
    · exact h.elim
  · exact h.elim
theorem TV_lk {z : AV} {zv : Value} {ok : Bool} {o : Option AV} {c : Value} {b : Bool} (hz : TV E (o.getD z) c) (hb : b = o.isSome) : TV E (lkV z ok o) (if ok then .tuple #[c, .bool b] else c) := by
  subst hb
  cases ok
  · simpa [lkV] using hz
  · simp only [lkV, if_true]
    rw [TV_tuple]
    exact ⟨_, rfl, TVl_cons.2 ⟨_, _, rfl, hz, TVl_cons.2 ⟨_, _, rfl, .inr ⟨rfl, by simp [VR]⟩, TVl_nil.2 rfl⟩⟩⟩
theorem lkM_ok {t k e : TypeId} {kd : IntKind} {z m x : AV} {ok : Bool} {sz by' : Nat} {cm cx : Value} (hR : Rep E A w) (ht : P.underlying t = some (.map k e)) (hk : intK P k = some kd) (hz : elOf P e = some (sz, by', z)) (hzk : zKind P e = some z.isAgg)
    (hm : TV E m cm) (hx : TV E x cx) (h : xop (.lkM kd z ok) [m, x] A K) : ResV E A w K ((do pure (Next.value (← Instr.lookup t cm cx ok)) : Sem Next).run P w) := by
  have hku := intK_ok hk
  obtain ⟨zv, hzr, hzt⟩ := zero_TV (w := w) (E := E) hz hzk
  simp only [xop] at h
  split at h
  · rename_i kk n
    obtain ⟨rfl, h⟩ := h
    simp only [TV_int] at hx; subst hx
    have hkey : MapKept.IsKey (.int kk) (.int kk n) := rfl
    split at h
    · rcases hm with ⟨hn, _⟩ | ⟨_, hm⟩
      · cases hn
      · simp only [VR] at hm; injection hm with hm; subst hm
        have hf : (Instr.findKey k (.int kk n) ([] : List MapEntry)).run P w = .ok none w := MapKept.run_findKey hku rfl
        have hrun : (Instr.lookup t (.map none) (.int kk n) ok).run P w = .ok (if ok then .tuple #[zv, .bool false] else zv) w := by
          simp [Instr.lookup, run_underlying ht, MapKept.run_checkKey hku hkey, hf, hzr, Result.andThen]
        simp only [Sem.run_bind, hrun, Result.andThen_ok, Sem.run_pure]
        exact Res.val hR h (TV_lk (zv := zv) hzt rfl)
    · rename_i g
      split at h
      · rename_i k' l hA
        obtain ⟨rfl, h⟩ := h
        obtain ⟨b, off, ha, rfl⟩ := TV_map hm
        obtain ⟨b', es, ck, ha', hF, hb, hkeys, hvals⟩ := hR.cont g _ hA
        rw [ha'] at ha; injection ha with ha; injection ha with e1 e2; subst e1; subst e2
        rcases findM (n := n) l es.toList 0 hkeys hvals with ⟨h1, h2, h3⟩ | ⟨l1, p, l2, e1, e', e2, h1, h2, h3, h4, h5, h6, h7⟩
        · have hrun : (Instr.lookup t (.map (some b')) (.int k' n) ok).run P w = .ok (if ok then .tuple #[zv, .bool false] else zv) w := by
            simp [Instr.lookup, run_underlying ht, MapKept.run_getObj_map hb, MapKept.run_checkKey hku hkey, MapKept.run_findKey hku h2, hzr, Result.andThen]
          simp only [Sem.run_bind, hrun, Result.andThen_ok, Sem.run_pure]
          rw [h1] at h
          exact Res.val hR h (TV_lk (zv := zv) hzt rfl)
        · have hrun : (Instr.lookup t (.map (some b')) (.int k' n) ok).run P w = .ok (if ok then .tuple #[e'.val, .bool true] else e'.val) w := by
            simp [Instr.lookup, run_underlying ht, MapKept.run_getObj_map hb, MapKept.run_checkKey hku hkey, MapKept.run_findKey hku h5, Result.andThen]
          simp only [Sem.run_bind, hrun, Result.andThen_ok, Sem.run_pure]
          rw [h6] at h
          refine Res.val hR h (TV_lk (zv := zv) ?_ rfl)
          rw [h2, h1] at hvals
          simp only [List.map_append, List.map_cons] at hvals
          obtain ⟨c1, c2, ec, hl, t1, t2⟩ := TVl_split hvals
          obtain ⟨d, dr, rfl, t4, t3⟩ := TVl_cons.1 t2
          obtain ⟨a1, a2⟩ := List.append_inj ec (by simp [hl, h3])
          injection a2 with a3 _
          rw [a3]; exact t4
      · exact h.elim
    · exact h.elim
  · exact h.elim
/-! operations that look at values alone -/
theorem nil_ok {k : NK} {t : TypeId} {c : Value} (hk : nkOf P t c = some k) {x : AV} {d : Value} (hx : TV E x d) {b : Bool} (h : nilOf k x = some b) : (Op.equal t d c).run P w = .ok b w := by
  unfold nkOf at hk
  have e : Op.equal t d c = Op.equalIn (9999 + 1) t d c := rfl
  rw [e]
  unfold Op.equalIn
  split at hk <;> first | (cases hk; done) | (injection hk with hk; subst hk)
  · rename_i hu
    rw [Sem.run_bind, run_underlying hu, Result.andThen_ok]
    cases x <;> simp only [nilOf] at h <;> first | (cases h; done) | (injection h with h; subst h)
    · rcases hx with ⟨hn, _⟩ | ⟨_, hx⟩
      · cases hn
      · simp only [VR] at hx; obtain ⟨_, b, off, _, hx⟩ := hx; injection hx with hx; subst hx; rfl
    · rcases hx with ⟨hn, _⟩ | ⟨_, hx⟩
      · cases hn
      · simp only [VR] at hx; obtain ⟨_, _, b, off, _, hx⟩ := hx; injection hx with hx; subst hx; rfl
    · rcases hx with ⟨hn, _⟩ | ⟨_, hx⟩
      · cases hn
      · simp only [VR] at hx; obtain ⟨_, b, off, _, hx⟩ := hx; injection hx with hx; subst hx; rfl
    · rcases hx with ⟨hn, _⟩ | ⟨_, hx⟩
      · cases hn
      · simp only [VR] at hx; obtain ⟨b, off, _, hx, _⟩ := hx; injection hx with hx; subst hx; rfl
    · rcases hx with ⟨hn, _⟩ | ⟨_, hx⟩
      · cases hn
      · simp only [VR] at hx; injection hx with hx; subst hx; rfl
  · rename_i hu
    rw [Sem.run_bind, run_underlying hu, Result.andThen_ok]
    cases x <;> simp only [nilOf] at h <;> first | (cases h; done) | (injection h with h; subst h)
    · rcases hx with ⟨hn, _⟩ | ⟨_, hx⟩
      · cases hn
      · simp only [VR] at hx; obtain ⟨_, _, ⟨_, _, hx⟩, _⟩ := hx; injection hx with hx; subst hx; rfl
    · rcases hx with ⟨hn, _⟩ | ⟨_, hx⟩
      · cases hn
      · simp only [VR] at hx; injection hx with hx; subst hx; rfl
  · rename_i hu
    rw [Sem.run_bind, run_underlying hu, Result.andThen_ok]
    cases x <;> simp only [nilOf] at h <;> first | (cases h; done) | (injection h with h; subst h)
    · rcases hx with ⟨hn, _⟩ | ⟨_, hx⟩
      · cases hn
      · simp only [VR] at hx; obtain ⟨_, hx, _⟩ := hx; injection hx with hx; subst hx; rfl
    · rcases hx with ⟨hn, _⟩ | ⟨_, hx⟩
      · cases hn
      · simp only [VR] at hx; injection hx with hx; subst hx; rfl
  · rename_i hu
    rw [Sem.run_bind, run_underlying hu, Result.andThen_ok]
    cases x <;> simp only [nilOf] at h <;> first | (cases h; done) | skip
    · injection h with h; subst h
      rcases hx with ⟨hn, _⟩ | ⟨_, hx⟩
      · cases hn
      · simp only [VR] at hx; injection hx with hx; subst hx; rfl
    · split at h
      · rename_i hl
        injection h with h; subst h
        rcases hx with ⟨hn, _⟩ | ⟨_, hx⟩
        · cases hn
        · simp only [VR] at hx; obtain ⟨a, cap, hx, _, hb⟩ := hx
          obtain ⟨b, off, rfl, _⟩ := hb hl
          injection hx with hx; subst hx; rfl
      · cases h
    · split at h
      · rename_i hl
        injection h with h; subst h
        rcases hx with ⟨hn, _⟩ | ⟨_, hx⟩
        · cases hn
        · simp only [VR] at hx; obtain ⟨a, cap, hx, _, hb⟩ := hx
          obtain ⟨b, off, rfl, _⟩ := hb hl
          injection hx with hx; subst hx; rfl
      · cases h
  · rename_i hu
    rw [Sem.run_bind, run_underlying hu, Result.andThen_ok]
    cases x <;> simp only [nilOf] at h <;> first | (cases h; done) | (injection h with h; subst h)
    · rcases hx with ⟨hn, _⟩ | ⟨_, hx⟩
      · cases hn
      · simp only [VR] at hx; obtain ⟨_, b, off, _, hx⟩ := hx; injection hx with hx; subst hx; rfl
    · rcases hx with ⟨hn, _⟩ | ⟨_, hx⟩
      · cases hn
      · simp only [VR] at hx; injection hx with hx; subst hx; rfl
theorem binOp_nil {k : NK} {t : TypeId} {c d : Value} (hk : nkOf P t c = some k) : (binOp .eql t d c = do pure (.bool (← Op.equal t d c))) ∧ (binOp .neq t d c = do pure (.bool (!(← Op.equal t d c)))) := by
  unfold nkOf at hk
  split at hk <;> first | (cases hk; done) | (cases d <;> exact ⟨rfl, rfl⟩)
theorem guard_nil {k : NK} {op : BinOp} {t : TypeId} {x : Operand} {c d : Value} (ho : op = .eql ∨ op = .neq) (hk : nkOf P t c = some k) : (eqGuard op t x (.const c) d c).run P w = .ok () w := by
  unfold nkOf at hk
  unfold eqGuard
  rcases ho with rfl | rfl
  · split at hk <;> first | (cases hk; done) | (cases d <;> first | rfl | (cases x <;> rfl))
  · split at hk <;> first | (cases hk; done) | (cases d <;> first | rfl | (cases x <;> rfl))
theorem TVl_take {n : Nat} : ∀ {l : List AV} {cs : List Value}, TVl E l cs → TVl E (l.take n) (cs.take n) ∧ TVl E (l.drop n) (cs.drop n) := by
  induction n with
  | zero => intro l cs h; exact ⟨TVl_nil.2 rfl, h⟩
  | succ n ih =>
    intro l cs h
    cases l with
    | nil => rw [TVl_nil] at h; subst h; exact ⟨TVl_nil.2 rfl, TVl_nil.2 rfl⟩
    | cons v r =>
      obtain ⟨c, cr, rfl, h1, h2⟩ := TVl_cons.1 h
      exact ⟨TVl_cons.2 ⟨c, _, rfl, h1, (ih h2).1⟩, (ih h2).2⟩
theorem TVl_two {l : List AV} {c : Value} {cs : List Value} (h : TVl E l (c :: cs)) : ∃ x r, l = x :: r ∧ TV E x c ∧ TVl E r cs := by
  cases l with
  | nil => rw [TVl_nil] at h; cases h
  | cons x r =>
    obtain ⟨c', cr, e, hx, hr⟩ := TVl_cons.1 h
    injection e with e1 e2; subst e1; subst e2
    exact ⟨x, r, rfl, hx, hr⟩
theorem TVl_len0 {l : List AV} (h : TVl E l []) : l = [] := by
  cases l with
  | nil => rfl
  | cons x r => obtain ⟨_, _, e, _⟩ := TVl_cons.1 h; cases e
theorem p_ok {o : Oper} {po : POp} {ys : List Operand} {vs : List AV} {v : AV} (ho : trX P o.op = some (.p po, ys)) (hv : TVl E vs (ys.map a.eval)) (h : pop po vs = some v) :
    ∃ c, (execOp a.eval o).run P w = .ok (.value c) w ∧ TV E v c := by
  have one : ∀ {c : Value}, TVl E vs [c] → ∃ x, vs = [x] ∧ TV E x c := by
    intro c hv
    match vs, hv with
    | [], hv => rw [TVl_nil] at hv; cases hv
    | x :: r, hv =>
      obtain ⟨c', cr, e, hx, hr⟩ := TVl_cons.1 hv
      injection e with e1 e2; subst e1; subst e2
      match r, hr with
      | [], _ => exact ⟨x, rfl, hx⟩
      | y :: _, hr => obtain ⟨_, _, e, _⟩ := TVl_cons.1 hr; cases e
  have two : ∀ {c d : Value}, TVl E vs [c, d] → ∃ x y, vs = [x, y] ∧ TV E x c ∧ TV E y d := by
    intro c d hv
    obtain ⟨x, r, rfl, hx, hr⟩ := TVl_two hv
    obtain ⟨y, r, rfl, hy, hr⟩ := TVl_two hr
    cases r with
    | nil => exact ⟨x, y, rfl, hx, hy⟩
    | cons _ _ => obtain ⟨_, _, e, _⟩ := TVl_cons.1 hr; cases e
  cases hop : o.op <;> rw [hop] at ho <;> simp only [trX] at ho <;> try (cases ho; done)
  case makeMap => (repeat' split at ho) <;> first | (cases ho; done) | (simp only [Option.map_eq_some_iff] at ho; obtain ⟨_, _, e⟩ := ho; injection e with e _; cases e)
  case mapUpdate => (repeat' split at ho) <;> first | (cases ho; done) | (simp only [Option.map_eq_some_iff] at ho; obtain ⟨_, _, e⟩ := ho; injection e with e _; cases e)
  case lookup => (repeat' split at ho) <;> first | (cases ho; done) | (injection ho with e; injection e with e _; cases e)
  case binOp op t x y ct =>
    split at ho
    · rename_i c
      split at ho
      · rename_i k hk
        cases op <;> simp only at ho <;> first | (cases ho; done) | (injection ho with ho; injection ho with e1 e2; injection e1 with e1; subst e1; subst e2)
        · obtain ⟨x', rfl, hx⟩ := one hv
          simp only [pop] at h
          cases hn : nilOf k x' with
          | none => rw [hn] at h; cases h
          | some b =>
            rw [hn] at h; injection h with h; subst h
            refine ⟨.bool b, ?_, .inr ⟨rfl, by simp [VR]⟩⟩
            have e : a.eval (.const c) = c := rfl
            simp only [execOp, hop, e, Sem.run_bind, guard_nil (.inl rfl) hk, Result.andThen_ok, (binOp_nil hk).1, nil_ok hk hx hn, Sem.run_pure]
        · obtain ⟨x', rfl, hx⟩ := one hv
          simp only [pop] at h
          cases hn : nilOf k x' with
          | none => rw [hn] at h; cases h
          | some b =>
            rw [hn] at h; injection h with h; subst h
            refine ⟨.bool (!b), ?_, .inr ⟨rfl, by cases b <;> simp [VR]⟩⟩
            have e : a.eval (.const c) = c := rfl
            simp only [execOp, hop, e, Sem.run_bind, guard_nil (.inr rfl) hk, Result.andThen_ok, (binOp_nil hk).2, nil_ok hk hx hn, Sem.run_pure]
      · cases ho
    · cases ho
  case makeFunc fn first cap =>
    split at ho
    · rename_i f
      injection ho with ho; injection ho with e1 e2; injection e1 with e1; subst e1; subst e2
      simp only [pop] at h; injection h with h; subst h
      refine ⟨.func (.func f) (first.map a.eval) (cap.map a.eval), by simp only [execOp, hop, Instr.makeFunc, Sem.run_bind, Sem.run_pure, Result.andThen_ok], .inr ⟨rfl, ?_⟩⟩
      simp only [VR]
      have := TVl_take (n := first.size) hv
      refine ⟨_, _, ⟨_, rfl, rfl⟩, ?_, ?_⟩
      · have e : (List.map a.eval (first.toList ++ cap.toList)).take first.size = (first.map a.eval).toList := by
          rw [List.map_append, List.take_append_of_le_length (by simp), List.take_of_length_le (by simp)]; simp
        rw [← e]; exact this.1
      · have e : (List.map a.eval (first.toList ++ cap.toList)).drop first.size = (cap.map a.eval).toList := by
          rw [List.map_append, List.drop_append_of_le_length (by simp), List.drop_of_length_le (by simp)]; simp
        rw [← e]; exact this.2
    · cases ho
  case makeInterface t x =>
    split at ho
    · cases ho
    · rename_i u hnu hu
      injection ho with ho; injection ho with e1 e2; injection e1 with e1; subst e1; subst e2
      obtain ⟨x', rfl, hx⟩ := one hv
      simp only [pop] at h; injection h with h; subst h
      refine ⟨.iface t (a.eval x), ?_, .inr ⟨rfl, ?_⟩⟩
      · simp only [execOp, hop, Instr.makeInterface, Sem.run_bind, run_underlying hu, Result.andThen_ok]
        rfl
      · simp only [VR]; exact ⟨_, rfl, hx⟩
    · cases ho
  case typeAssert x s t ok =>
    split at ho
    · rename_i fs i _ _ z hu hi hz
      split at ho
      · rename_i cs hzero
        split at ho
        · rename_i hh
          obtain ⟨hag, rfl⟩ := hh
          injection ho with ho; injection ho with e1 e2; injection e1 with e1; subst e1; subst e2
          obtain ⟨x', rfl, hx⟩ := one hv
          obtain ⟨i', zv, hi', _, _, hz', _, _, _, hvr⟩ := elOf_ok hz
          rw [hi] at hi'; injection hi' with hi'; subst hi'
          rw [hzero] at hz'; injection hz' with hz'; subst hz'
          have hzt : TV E z (.agg cs) := .inl ⟨hag, cs.toList, hvr E, by simp⟩
          have hzr : (zeroValue t).run P w = .ok (.agg cs) w := by simp [zeroValue, typeInfo, hi, hzero]
          cases x' <;> simp only [pop] at h <;> try (cases h; done)
          case nilI =>
            injection h with h; subst h
            rcases hx with ⟨hn, _⟩ | ⟨_, hx⟩
            · cases hn
            · simp only [VR] at hx; injection hx with hx
              refine ⟨.tuple #[.agg cs, .bool false], ?_, ?_⟩
              · simp only [execOp, hop, hx, Instr.typeAssert, Sem.run_bind, run_underlying hu, Result.andThen_ok, if_true, hzr, Sem.run_pure]
              · rw [TV_tuple]; exact ⟨_, rfl, TVl_cons.2 ⟨_, _, rfl, hzt, TVl_cons.2 ⟨_, _, rfl, .inr ⟨rfl, by simp [VR]⟩, TVl_nil.2 rfl⟩⟩⟩
          case iface u v' =>
            rcases hx with ⟨hn, _⟩ | ⟨_, hx⟩
            · cases hn
            · simp only [VR] at hx
              obtain ⟨c, hx, hc⟩ := hx
              injection hx with hx
              split at h
              · rename_i hut
                subst hut
                injection h with h; subst h
                refine ⟨.tuple #[c, .bool true], ?_, ?_⟩
                · simp only [execOp, hop, hx, Instr.typeAssert, Sem.run_bind, run_underlying hu, Result.andThen_ok, if_true, Sem.run_pure]
                · rw [TV_tuple]; exact ⟨_, rfl, TVl_cons.2 ⟨_, _, rfl, hc, TVl_cons.2 ⟨_, _, rfl, .inr ⟨rfl, by simp [VR]⟩, TVl_nil.2 rfl⟩⟩⟩
              · rename_i hut
                injection h with h; subst h
                refine ⟨.tuple #[.agg cs, .bool false], ?_, ?_⟩
                · simp only [execOp, hop, hx, Instr.typeAssert, Sem.run_bind, run_underlying hu, Result.andThen_ok, if_neg hut, if_true, hzr, Sem.run_pure]
                · rw [TV_tuple]; exact ⟨_, rfl, TVl_cons.2 ⟨_, _, rfl, hzt, TVl_cons.2 ⟨_, _, rfl, .inr ⟨rfl, by simp [VR]⟩, TVl_nil.2 rfl⟩⟩⟩
        · cases ho
      · cases ho
    · cases ho
  case nilCheck x =>
    injection ho with ho; injection ho with e1 e2; injection e1 with e1; subst e1; subst e2
    obtain ⟨x', rfl, hx⟩ := one hv
    simp only [pop] at h
    have key : ∀ c : Value, a.eval x = c → (∀ p, c = .pointer (some p) → (execOp a.eval o).run P w = .ok (.value c) w) ∧ (∀ f xs ys, c = .func (.func f) xs ys → (execOp a.eval o).run P w = .ok (.value c) w) := fun c hc =>
      ⟨fun p e => by subst e; simp [execOp, hop, hc], fun f xs ys e => by subst e; simp [execOp, hop, hc]⟩
    split at h <;> first | (cases h; done) | (injection h with h; subst h)
    · have hx' := hx
      rcases hx' with ⟨hn, _⟩ | ⟨_, hx'⟩
      · cases hn
      · simp only [VR] at hx'; obtain ⟨_, b, off, _, hv'⟩ := hx'; injection hv' with hv'
        exact ⟨_, (key _ rfl).1 _ hv', hx⟩
    · have hx' := hx
      rcases hx' with ⟨hn, _⟩ | ⟨_, hx'⟩
      · cases hn
      · simp only [VR] at hx'; obtain ⟨_, _, b, off, _, hv'⟩ := hx'; injection hv' with hv'
        exact ⟨_, (key _ rfl).1 _ hv', hx⟩
    · have hx' := hx
      rcases hx' with ⟨hn, _⟩ | ⟨_, hx'⟩
      · cases hn
      · simp only [VR] at hx'; obtain ⟨_, b, off, _, hv'⟩ := hx'; injection hv' with hv'
        exact ⟨_, (key _ rfl).1 _ hv', hx⟩
    · have hx' := hx
      rcases hx' with ⟨hn, _⟩ | ⟨_, hx'⟩
      · cases hn
      · simp only [VR] at hx'; obtain ⟨b, off, _, hv', _⟩ := hx'; injection hv' with hv'
        exact ⟨_, (key _ rfl).1 _ hv', hx⟩
    · have hx' := hx
      rcases hx' with ⟨hn, _⟩ | ⟨_, hx'⟩
      · cases hn
      · simp only [VR] at hx'; obtain ⟨_, _, ⟨_, hk, hv'⟩, _⟩ := hx'; injection hv' with hv'
        simp only [Emb.fn] at hk; injection hk with hk; subst hk
        exact ⟨_, (key _ rfl).2 _ _ _ hv', hx⟩
  case index t x i =>
    split at ho
    · split at ho
      · injection ho with ho; injection ho with ho _; cases ho
      · cases ho
    · rename_i hu
      injection ho with ho; injection ho with e1 e2; injection e1 with e1; subst e1; subst e2
      obtain ⟨x', i', rfl, hx, hi⟩ := two hv
      cases x' <;> simp only [pop] at h <;> try (cases h; done)
      rename_i s
      cases i' <;> simp only at h <;> try (cases h; done)
      rename_i k n
      split at h
      · rename_i hh
        injection h with h; subst h
        simp only [TV_int] at hi
        have hxs : a.eval x = .string s := by
          rcases hx with ⟨hn, _⟩ | ⟨_, hx⟩
          · cases hn
          · simp only [VR] at hx; injection hx
        refine ⟨.int .u8 ((bytesI s).getD n.toNat 0), ?_, .inr ⟨rfl, by simp [VR]⟩⟩
        have hg : s[n.toNat]? = some s[n.toNat] := Go.ByteArray.getElem?_lt' s _ hh.2
        have hb : (bytesI s).getD n.toNat 0 = (s[n.toNat].toNat : Int) := by
          have hl : n.toNat < s.data.toList.length := by simpa using hh.2
          simp only [bytesI, List.getD_eq_getElem?_getD, List.getElem?_map, List.getElem?_eq_getElem hl]
          rfl
        rw [hb]
        simp [execOp, hop, hi, hxs, Instr.index, asIntOf, run_underlying hu, hh.1, hg]
      · cases h
    · cases ho
  case slice t x lo hi mx =>
    split at ho
    · rename_i hu
      injection ho with ho; injection ho with e1 e2; injection e1 with e1; subst e1; subst e2
      rw [List.map_cons] at hv
      obtain ⟨x', r, rfl, hx, hr⟩ := TVl_two hv
      cases x' <;> simp only [pop] at h <;> try (cases h; done)
      rename_i s
      have hxs : a.eval x = .string s := by
        rcases hx with ⟨hn, _⟩ | ⟨_, hx⟩
        · cases hn
        · simp only [VR] at hx; injection hx
      have run : ∀ l hh : Int, 0 ≤ l → l ≤ hh → hh ≤ s.size → ((lo.map a.eval = none ∧ l = 0) ∨ ∃ k, lo.map a.eval = some (.int k l)) → ((hi.map a.eval = none ∧ hh = s.size) ∨ ∃ k, hi.map a.eval = some (.int k hh)) →
          ∃ c, (execOp a.eval o).run P w = .ok (.value c) w ∧ TV E (.str (s.extract l.toNat hh.toNat)) c := by
        intro l hh h0 h1 h2 hl hhi
        refine ⟨.string (s.extract l.toNat hh.toNat), ?_, .inr ⟨rfl, by simp [VR]⟩⟩
        have hb := run_bounds (P := P) (w := w) (isS := false) (len := s.size) (cap := s.size) h0 h1 h2 hl hhi
        simp only [execOp, hop, hxs, Option.map_none, Instr.sliceAt, Instr.slice, Sem.run_bind, run_underlying hu, Result.andThen_ok, Option.isSome_none, Bool.false_eq_true, if_false, hb, Sem.run_pure]
      cases lo with
      | none =>
        cases hi with
        | none => simp at h
        | some y =>
          simp only [Option.toList_none, Option.toList_some, List.nil_append, List.map_cons, List.map_nil] at hr
          obtain ⟨y', r', rfl, hy, hr'⟩ := TVl_two hr
          rw [TVl_len0 hr'] at h
          cases y' <;> simp at h
          rename_i k n
          obtain ⟨⟨g1, g2⟩, rfl⟩ := h
          simp only [TV_int] at hy
          exact run 0 n (by omega) g1 g2 (.inl ⟨rfl, rfl⟩) (.inr ⟨k, by simp [hy]⟩)
      | some z =>
        cases hi with
        | none =>
          simp only [Option.toList_none, Option.toList_some, List.append_nil, List.map_cons, List.map_nil] at hr
          obtain ⟨y', r', rfl, hy, hr'⟩ := TVl_two hr
          rw [TVl_len0 hr'] at h
          cases y' <;> simp at h
          rename_i k n
          obtain ⟨⟨g1, g2⟩, rfl⟩ := h
          simp only [TV_int] at hy
          have := run n s.size g1 g2 (Int.le_refl _) (.inr ⟨k, by simp [hy]⟩) (.inl ⟨rfl, rfl⟩)
          simpa using this
        | some y =>
          simp only [Option.toList_some, List.cons_append, List.nil_append, List.map_cons, List.map_nil] at hr
          obtain ⟨z', r', rfl, hz, hr'⟩ := TVl_two hr
          obtain ⟨y', r', rfl, hy, hr'⟩ := TVl_two hr'
          rw [TVl_len0 hr'] at h
          cases z' <;> simp at h
          rename_i k n
          cases y' <;> simp at h
          rename_i k2 n2
          obtain ⟨⟨g1, g2, g3⟩, rfl⟩ := h
          simp only [TV_int] at hy hz
          exact run n n2 g1 g2 g3 (.inr ⟨k, by simp [hz]⟩) (.inr ⟨k2, by simp [hy]⟩)
    · cases ho
  case call c =>
    obtain ⟨callee, args, argTypes⟩ := c
    simp only at ho
    split at ho
    · repeat' (first | (cases ho; done) | (injection ho with ho; injection ho with ho _; cases ho; done) | split at ho)
    · repeat' (first | (cases ho; done) | (injection ho with ho; injection ho with ho _; cases ho; done) | split at ho)
    · repeat' (first | (cases ho; done) | (injection ho with ho; injection ho with ho _; cases ho; done) | split at ho)
    · rename_i _ x y hargs
      injection ho with ho; injection ho with e1 e2; injection e1 with e1; subst e1; subst e2
      obtain ⟨x', y', rfl, hx, hy⟩ := two hv
      have ea : args = #[x, y] := by rw [← Array.toArray_toList (xs := args), hargs]
      subst ea
      cases x' <;> simp only [pop] at h <;> try (cases h; done)
      rename_i k1 n1
      cases y' <;> simp only at h <;> try (cases h; done)
      rename_i k2 n2
      injection h with h; subst h
      simp only [TV_int] at hx hy
      refine ⟨_, ?_, TV_int.2 rfl⟩
      simp [execOp, hop, resolve, invoke, builtin, Builtin.min_, Builtin.min2, hx, hy]
    · rename_i _ x y hargs
      injection ho with ho; injection ho with e1 e2; injection e1 with e1; subst e1; subst e2
      obtain ⟨x', y', rfl, hx, hy⟩ := two hv
      have ea : args = #[x, y] := by rw [← Array.toArray_toList (xs := args), hargs]
      subst ea
      cases x' <;> simp only [pop] at h <;> try (cases h; done)
      rename_i k1 n1
      cases y' <;> simp only at h <;> try (cases h; done)
      rename_i k2 n2
      injection h with h; subst h
      simp only [TV_int] at hx hy
      refine ⟨_, ?_, TV_int.2 rfl⟩
      simp [execOp, hop, resolve, invoke, builtin, Builtin.max_, Builtin.max2, hx, hy]
    · cases ho
  all_goals (repeat' (first | (cases ho; done) | (injection ho with ho; injection ho with ho _; cases ho; done) | split at ho))
end
end AVL

/- The abstract program: operations, code, functions; that the machine does what it says. -/
namespace AVL
open Go
set_option linter.unusedSimpArgs false
set_option linter.unusedVariables false

inductive AOp where
  | mv (x : AO)
  | pick (c a b : AO)
  | alloc (t : TypeId) (z : List AV)
  | box (t : TypeId) (sh : Sh) (x : AO)
  | build (sh : Sh) (z : List AV) (ps : List (Nat × Nat × AO))
  | bslI (e : TypeId) (k : IntKind) (xs : List AO)
  | bsl (e : TypeId) (sh : Sh) (sz : Nat) (xs : List AO)
  | load (sh : Sh) (sz : Nat) (p : AO)
  | store (sh : Sh) (sz : Nat) (p x : AO)
  | bin (op : BinOp) (x y : AO)
  | eq (et : ET) (neg : Bool) (x y : AO)
  | un (op : UnOp) (x : AO)
  | conv (k : IntKind) (x : AO)
  | fadr (off sz : Nat) (sh : Sh) (x : AO)
  | field (off sz : Nat) (sh : Sh) (x : AO)
  | idx (sz : Nat) (x i : AO)
  | idxA (m sz : Nat) (ints : Bool) (x i : AO)
  | slc (sz : Nat) (x : AO) (lo hi : Option AO)
  | slcA (m : Nat) (x : AO) (lo hi : Option AO)
  | s2a (m : Nat) (x : AO)
  | mkI (e : TypeId) (k : IntKind) (bytes : Nat) (l c : AO)
  | mk (e : TypeId) (sz bytes : Nat) (z : AV) (l c : AO)
  | ext (i : Nat) (x : AO)
  | len (str : Bool) (x : AO)
  | appI (e : TypeId) (k : IntKind) (bytes : Nat) (d s : AO)
  | app (e : TypeId) (sz bytes : Nat) (d s : AO)
  | call (f : FuncId) (args : List (Sh × AO))
  | callV (x : AO) (args : List (Sh × AO))
  | pnc (x : AO)
  | xx (o : XOp) (xs : List AO)

inductive AOut where
  | ret (v : AV)
  | pan (v : AV)
def OutR (E : Emb) : AOut → Ending → Prop
  | .ret v, e => ∃ c, e = .returned c ∧ TV E v c
  | .pan v, e => ∃ c, e = .panicked [{ v := c, recovered := false }] ∧ TV E v c

/-- What a call does, told by abstract values. -/
def SimX (P : Program) (f : FuncId) (args : List AV) (A : Heap) (K : AOut → Heap → Prop) : Prop :=
  ∀ E w (cargs : Array Value), Rep E A w → TVl E args cargs.toList → Calls P f cargs w fun e w' => ∃ o A' E', K o A' ∧ Rep E' A' w' ∧ E.Le E' ∧ Same w w' ∧ OutR E' o e

theorem SimX.mono {P : Program} {f : FuncId} {args : List AV} {A : Heap} {K K' : AOut → Heap → Prop} (h : SimX P f args A K) (hk : ∀ o A', K o A' → K' o A') : SimX P f args A K' :=
  fun E w cargs hR ha => (h E w cargs hR ha).mono fun _ _ ⟨o, A', E', k, r⟩ => ⟨o, A', E', hk _ _ k, r⟩

/-- What a round does, of the loop whose record stands in g's block. -/
def SimR (P : Program) (g : Nat) (vs : List AV) (A : Heap) (K : AOut → Heap → Prop) : Prop :=
  ∀ E w (cargs : Array Value) (l : Nat) (r : Loop), Rep E A w → TVl E vs cargs.toList → (E.loc g).addr = some (l, 0) → w.heap[l]? = some (.loop r) →
    cargs.size = r.params.size ∧ RoundIn Fence.wide 0 P l r.fn ((r.params.zip cargs).foldl (fun tmps (t, a) => tmps.setIfInBounds t a) r.tmps) r.assign r.body w fun e w' => ∃ o A' E', K o A' ∧ Rep E' A' w' ∧ E.Le E' ∧ Same w w' ∧ OutR E' o e
theorem SimR.mono {P : Program} {g : Nat} {vs : List AV} {A : Heap} {K K' : AOut → Heap → Prop} (h : SimR P g vs A K) (hk : ∀ o A', K o A' → K' o A') : SimR P g vs A K' :=
  fun E w cargs l r hR ha hl hr => ⟨(h E w cargs l r hR ha hl hr).1, (h E w cargs l r hR ha hl hr).2.mono fun _ _ ⟨o, A', E', k, q⟩ => ⟨o, A', E', hk _ _ k, q⟩⟩
def nrm (sh : Sh) (v : AV) : Option AV :=
  match sh with
  | .sc => if v.isAgg then none else some v
  | sh => if v.isAgg then shp sh (comps v) else none
def nrms (env : AEnv) : List (Sh × AO) → Option (List AV)
  | [] => some []
  | (sh, x) :: r => match nrm sh (ev env x), nrms env r with
    | some v, some l => some (v :: l)
    | _, _ => none
theorem nrm_ok {E : Emb} {sh : Sh} {v v' : AV} {c : Value} (h : TV E v c) (hn : nrm sh v = some v') : TV E v' c := by
  rcases h with ⟨hv, xs, hx, rfl⟩ | ⟨hv, hx⟩
  · unfold nrm at hn
    split at hn
    · simp [hv] at hn
    · rename_i hne
      simp only [hv, if_true] at hn
      refine shp_ok (VR_comps hx) hn ?_
      cases sh with
      | sc => exact absurd rfl hne
      | ag => rfl
      | ia k n => rfl
  · unfold nrm at hn
    split at hn
    · simp only [hv, Bool.false_eq_true, if_false] at hn
      injection hn with hn; subst hn
      exact .inr ⟨hv, hx⟩
    · simp [hv] at hn

def evo (env : AEnv) : Option AO → Option AV
  | none => none
  | some x => some (ev env x)

def aint (i : AV) (Q : Int → Prop) : Prop :=
  match i with
  | .int _ n => Q n
  | _ => False
def callable (P : Program) (f : FuncId) : Bool := match P.funcs[f]? with
  | some fn => fn.body.isSome && fn.name != "runtime.NumGoroutine"
  | none => false
def outK (K Kp : AV → Heap → Prop) (o : AOut) (A : Heap) : Prop := match o with
  | .ret v => K v A
  | .pan v => Kp v A
/-- The element's place; of nil: thrown. -/
def aidxP (P : Program) (sz : Nat) (x : AV) (n : Int) (A : Heap) (K Kp : AV → Heap → Prop) : Prop := match x with
  | .nilS => ∀ s : Bool, Kp (.iface P.rt.boundsError (.agg [.int .i64 (IntKind.i64.wrap n), .int .i64 0, .bool s, .int .u8 0])) A
  | x => aidx sz x n A K
theorem aidxP_eq {P : Program} {sz : Nat} {x : AV} {n : Int} {A : Heap} {K Kp : AV → Heap → Prop} (hx : x ≠ .nilS) : aidxP P sz x n A K Kp = aidx sz x n A K := by
  cases x <;> first | rfl | exact absurd rfl hx
theorem aidxP_of {P : Program} {sz : Nat} {x : AV} {n : Int} {A : Heap} {K Kp : AV → Heap → Prop} (hx : x ≠ .nilS) (h : aidxP P sz x n A K Kp) : aidx sz x n A K := by
  cases x <;> first | exact h | exact absurd rfl hx
/-- An operation on abstract values: what must hold so that it runs and leads on to K (or, thrown, to Kp). -/
def aop (P : Program) (o : AOp) (env : AEnv) (A : Heap) (K : AV → Heap → Prop) (Kp : AV → Heap → Prop) : Prop :=
  match o with
  | .mv x => K (ev env x) A
  | .pick c a b => apick (ev env c) (ev env a) (ev env b) fun v => K v A
  | .alloc t z => ∀ g, A g = none → K (.ptr g 0) (A.set g (.var t z))
  | .box t sh x => good (ev env x) = true ∧ abox t sh (ev env x) A K
  | .build sh z ps => abuild sh z ps env A K
  | .bslI e k xs => abslI e k xs env A K
  | .bsl e sh sz xs => absl e sh sz xs env A K
  | .load sh sz p => aload sh sz (ev env p) A K
  | .store sh sz p x => good (ev env x) = true ∧ astore sh sz (ev env p) (ev env x) A K
  | .bin op x y => abin op (ev env x) (ev env y) fun v => K v A
  | .eq et neg x y => aeq et neg (ev env x) (ev env y) fun v => K v A
  | .un op x => aun op (ev env x) fun v => K v A
  | .conv k x => aconv k (ev env x) fun v => K v A
  | .fadr off sz sh x => afadr off sz sh (ev env x) A K
  | .field off sz sh x => afield off sz sh (ev env x) A K
  | .idx sz x i => aint (ev env i) fun n => aidxP P sz (ev env x) n A K Kp
  | .idxA m sz ints x i => aint (ev env i) fun n => aidxA m sz ints (ev env x) n A K
  | .slc sz x lo hi => szOK sz (ev env x) A ∧ aslc (ev env x) (evo env lo) (evo env hi) A K
  | .slcA m x lo hi => aslcA m (ev env x) (evo env lo) (evo env hi) A K
  | .s2a m x => as2a m (ev env x) A K
  | .mkI e k bytes l c => amkI e k bytes (ev env l) (ev env c) A K
  | .mk e sz bytes z l c => amk e sz bytes z (ev env l) (ev env c) A K
  | .ext i x => aext i (ev env x) fun v => K v A
  | .len str x => alen str (ev env x) fun v => K v A
  | .appI e k bytes d s => aappI e k bytes (ev env d) (ev env s) A K
  | .app e sz bytes d s => aapp e sz bytes (ev env d) (ev env s) A K
  | .call f args => match nrms env args with
    | some vs => SimX P f vs A fun o A' => match o with
      | .ret v => K v A'
      | .pan v => Kp v A'
    | none => False
  | .callV x args => match ev env x, nrms env args with
    | .func (.func f) first cap, some vs => callable P f = true ∧ SimX P f (first ++ vs ++ cap) A (outK K Kp)
    | .func (.yield g) [] [], some vs => (∃ en ps asg body, A g = some (.lp en ps asg body .ready)) ∧ SimR P g vs A (outK K Kp)
    | _, _ => False
  | .pnc x => match ev env x with
    | .iface t v => Kp (.iface t v) A
    | _ => False
  | .xx o xs => xop o (xs.map (ev env)) A K

/-! ### from the machine's operations to these -/
def trOpt (o : Option Operand) : Option (Option AO) :=
  match o with
  | none => some none
  | some x => (trO x).map some
def trArgs (P : Program) : List Operand → List TypeId → Option (List (Sh × AO))
  | [], [] => some []
  | x :: r, t :: s => match trO x, shOf P t, trArgs P r s with
    | some a, some (sh, _), some l => some ((sh, a) :: l)
    | _, _, _ => none
  | _, _ => none
/-- The tree for equality at a type. -/
def etOf (P : Program) : Nat → TypeId → Option ET
  | 0, _ => none
  | d + 1, t => match P.underlying t with
    | some (.int _) => some .scI
    | some .bool => some .scB
    | some .string => some .scS
    | some (.array n e) => match P.underlying e with
      | some (.int _) => some (.ia n)
      | _ => none
    | some (.struct fs) => (fs.toList.mapM fun (f : Field) => match shOf P f.type, etOf P d f.type with
      | some (sh, sz), some et => some (f.offset, sz, sh, et)
      | _, _ => none).map .st
    | _ => none
def trBuiltin (P : Program) (b : Builtin) (args : List Operand) (ts : List TypeId) : Option AOp :=
  match b, args, ts with
  | .len, [x], [t] => match lenT P t, trO x with
    | some s, some a => some (.len s a)
    | _, _ => none
  | .append, [d, s], [t, u] => match P.underlying t, trO d, trO s with
    | some (.slice e), some ad, some as => if srcT P u = true then match elOf P e with
        | some (sz, bytes, z) => match intK P e with
          | some k => if sz = 1 then some (.appI e k bytes ad as) else none
          | none => some (.app e sz bytes ad as)
        | none => none
      else none
    | _, _, _ => none
  | _, _, _ => none
def trOp0 (P : Program) (o : Op) : Option AOp :=
  match o with
  | .move x | .assign x => (trO x).map .mv
  | .pick c a b => match trO c, trO a, trO b with
    | some c, some a, some b => some (.pick c a b)
    | _, _, _ => none
  | .alloc t => (zeroOf P t).map (.alloc t)
  | .box t x => match shOf P t, trO x with
    | some (sh, _), some a => some (.box t sh a)
    | _, _ => none
  | .build t ps => match shOf P t, zeroOf P t, placesOf P t with
    | some (sh, _), some z, some pl => if sh = .sc then none else
        if sizedT P t = true then
          (trParts pl ps.toList).map (.build sh z) else none
    | _, _, _ => none
  | .buildSlice t len ps => match P.underlying t with
    | some (.slice e) => match elOf P e, shOf P e, trList 0 ps.toList with
      | some (sz, _, _), some (sh, _), some xs => if ps.size = len ∧ len * sz ≤ 2 ^ 24 then match intK P e with
          | some k => if sz = 1 then some (.bslI e k xs) else none
          | none => some (.bsl e sh sz xs)
        else none
      | _, _, _ => none
    | _ => none
  | .load t p => match shOf P t, trO p with
    | some (sh, sz), some a => some (.load sh sz a)
    | _, _ => none
  | .store t p x => match shOf P t, trO p, trO x with
    | some (sh, sz), some a, some b => some (.store sh sz a b)
    | _, _, _ => none
  | .binOp op t x y _ => match trO x, trO y with
    | some a, some b => match op with
      | .eql => match etOf P 8 t with
        | some et => if et.rk ≤ 9999 ∧ etOK P et t = true ∧ P.eqGuardType P.depth t = false then some (.eq et false a b) else none
        | none => none
      | .neq => match etOf P 8 t with
        | some et => if et.rk ≤ 9999 ∧ etOK P et t = true ∧ P.eqGuardType P.depth t = false then some (.eq et true a b) else none
        | none => none
      | op => some (.bin op a b)
    | _, _ => none
  | .unOp op _ x => (trO x).map (.un op)
  | .convert s t x => match (P.underlying s).isSome, P.underlying t, trO x with
    | true, some (.int k), some a => some (.conv k a)
    | _, _, _ => none
  | .fieldAddr t x i => match fieldOf P t i, trO x with
    | some (off, sh, sz), some a => some (.fadr off sz sh a)
    | _, _ => none
  | .field t x i => match fieldOf P t i, trO x with
    | some (off, sh, sz), some a => some (.field off sz sh a)
    | _, _ => none
  | .indexAddr t x i => match trO x, trO i with
    | some a, some b => match P.underlying t with
      | some (.slice e) => match P.info? e with
        | some j => some (.idx j.size a b)
        | none => none
      | _ => match idxAT P t with
        | some (m, sz, ints) => some (.idxA m sz ints a b)
        | none => none
    | _, _ => none
  | .slice t x lo hi none => match trO x, trOpt lo, trOpt hi with
    | some a, some l, some h => match P.underlying t with
      | some (.slice e) => match P.info? e with
        | some j => some (.slc j.size a l h)
        | none => none
      | _ => match intArr P t with
        | some m => some (.slcA m a l h)
        | none => none
    | _, _, _ => none
  | .slice t x lo hi (some mx) => match trO x, trOpt lo, trOpt hi, trO mx with
    | some a, some l, some (some (.v (.int k n))), some (.v (.int k' n')) => match P.underlying t with
      | some (.slice e) => match P.info? e with
        | some j => if k' = k ∧ n' = n ∧ j.size ≠ 1 then some (.slc j.size a l (some (.v (.int k n)))) else none
        | none => none
      | _ => none
    | _, _, _, _ => none
  | .sliceToArrayPointer t x => match intArr P t, trO x with
    | some m, some a => some (.s2a m a)
    | _, _ => none
  | .makeSlice t l c => match P.underlying t, trO l, trO c with
    | some (.slice e), some a, some b => match elOf P e with
      | some (sz, bytes, z) => match intK P e with
        | some k => match z with
          | .int k' n => if k' = k ∧ n = 0 ∧ sz = 1 then some (.mkI e k bytes a b) else none
          | _ => none
        | none => some (.mk e sz bytes z a b)
      | none => none
    | _, _, _ => none
  | .extract x i => (trO x).map (.ext i)
  | .call c => match c.callee with
    | .value (.func f) => if callable P f = true then
        (trArgs P c.args.toList c.argTypes.toList).map (.call f) else none
    | .value (.tmp t) => (trArgs P c.args.toList c.argTypes.toList).map (.callV (.t t))
    | .builtin b => trBuiltin P b c.args.toList c.argTypes.toList
    | _ => none
  | .panic x => (trO x).map .pnc
  | _ => none
def trOs : List Operand → Option (List AO)
  | [] => some []
  | x :: r => match trO x, trOs r with
    | some a, some l => some (a :: l)
    | _, _ => none
def trOp (P : Program) (o : Op) : Option AOp :=
  match trOp0 P o with
  | some a => some a
  | none => match trX P o with
    | some (xo, ys) => (trOs ys).map (.xx xo)
    | none => none

/-- The operations that change no memory, and make none. -/
def AOp.floats : AOp → Bool
  | .mv _ | .pick .. | .build .. | .load .. | .bin .. | .eq .. | .un .. | .conv .. | .fadr .. | .field .. | .idx .. | .idxA .. | .slc .. | .slcA .. | .s2a .. | .ext .. | .len .. => true
  | .xx o _ => o.floats
  | _ => false
def AOp.acts : AOp → Bool
  | .call .. | .callV .. | .pnc _ => true
  | _ => false
/-- Those of them that look into memory. -/
def AOp.reads : AOp → Bool
  | .load .. | .idx .. | .slc .. => true
  | .xx o _ => o.reads
  | _ => false

section
variable {P : Program} {w : World} {E : Emb} {A : Heap} {K Kp : AV → Heap → Prop} {a : Act} {env : AEnv}

theorem Res.upon {o : Oper} {next : Act → World → Prop} {Q : Exit → Act → World → Prop} {r : Result Next} (h : Res E w K r)
    (hn : ∀ v A' E' w' c, K v A' → Rep E' A' w' → E.Le E' → Same w w' → TV E' v c → next (a.put o.dst c) w') : o.upon P a next Q r := by
  obtain ⟨v, A', E', w', hk, hR, hE, hS, ⟨c, rfl, hc⟩ | ⟨rfl, rfl⟩⟩ := h
  · exact hn v A' E' w' c hk hR hE hS hc
  · exact hn .undef A' E' w' undef hk hR hE hS (TV_undef _ _)

theorem TVo {x : Option Operand} {ax : Option AO} (he : EnvR E env a) (h : trOpt x = some ax) :
    (evo env ax = none ∧ x.map a.eval = none) ∨ ∃ v c, evo env ax = some v ∧ x.map a.eval = some c ∧ TV E v c := by
  cases x with
  | none => simp only [trOpt] at h; injection h with h; subst h; exact .inl ⟨rfl, rfl⟩
  | some x =>
    simp only [trOpt] at h
    cases hx : trO x with
    | none => rw [hx] at h; simp at h
    | some y => rw [hx] at h; simp at h; subst h; exact .inr ⟨_, _, rfl, rfl, ev_ok he hx⟩

theorem opt_map {α β : Type} {x : Option α} {f : α → β} {y : β} (h : x.map f = some y) : ∃ z, x = some z ∧ y = f z := by
  cases x with
  | none => simp at h
  | some z => simp at h; exact ⟨z, rfl, h.symm⟩

theorem intOp {i : AV} {c : Value} (hi : TV E i c) {Q : Int → Prop} (h : aint i Q) : ∃ k n, c = .int k n ∧ Q n := by
  unfold aint at h
  split at h
  · simp only [TV_int] at hi
    exact ⟨_, _, hi, h⟩
  · exact h.elim

/-- The operations that touch no memory. -/
theorem fl_ok0 {o : Oper} {ao : AOp} (ho : trOp0 P o.op = some ao) (hf : ao.floats = true) (hni : ∀ sz x i, ao = .idx sz x i → ev env x ≠ .nilS) (hR : Rep E A w) (he : EnvR E env a) (h : aop P ao env A K Kp) :
    ResV E A w K ((execOp a.eval o).run P w) := by
  cases hop : o.op <;> rw [hop] at ho <;> simp only [trOp0] at ho <;> try (cases ho; done)
  case move x =>
    obtain ⟨ax, hx, rfl⟩ := opt_map ho
    simp only [execOp, hop, Sem.run_pure]
    exact Res.val hR h (ev_ok he hx)
  case assign x =>
    obtain ⟨ax, hx, rfl⟩ := opt_map ho
    simp only [execOp, hop, Sem.run_pure]
    exact Res.val hR h (ev_ok he hx)
  case pick c x y =>
    split at ho
    · rename_i h1 h2 h3
      injection ho with ho; subst ho
      simp only [execOp, hop]
      exact pick_ok hR (ev_ok he h1) (ev_ok he h2) (ev_ok he h3) h
    · cases ho
  case alloc t => obtain ⟨z, hz, rfl⟩ := opt_map ho; cases hf
  case box t x => (repeat' (first | (cases ho; done) | (injection ho with ho; subst ho; cases hf; done) | split at ho))
  case build t ps =>
    split at ho
    · rename_i sh sz z pl h1 h2 h3
      split at ho
      · cases ho
      · rename_i hsc
        split at ho
        · rename_i hall
          obtain ⟨qs, hq, rfl⟩ := opt_map ho
          simp only [execOp, hop]
          exact build_ok hR he h1 hsc h2 h3 hall hq h
        · cases ho
    · cases ho
  case buildSlice t len ps => (repeat' (first | (cases ho; done) | (injection ho with ho; subst ho; cases hf; done) | split at ho))
  case load t p =>
    split at ho
    · rename_i h1 h2
      injection ho with ho; subst ho
      simp only [execOp, hop]
      exact load_ok hR h1 (ev_ok he h2) h
    · cases ho
  case store t p x => (repeat' (first | (cases ho; done) | (injection ho with ho; subst ho; cases hf; done) | split at ho))
  case binOp op t x y yt =>
    split at ho
    · rename_i ax ay h1 h2
      simp only [execOp, hop]
      split at ho
      · split at ho
        · rename_i et het
          split at ho
          · rename_i hh
            injection ho with ho; subst ho
            exact eq_ok (neg := false) hR hh.1 hh.2.1 hh.2.2 (ev_ok he h1) (ev_ok he h2) h
          · cases ho
        · cases ho
      · split at ho
        · rename_i et het
          split at ho
          · rename_i hh
            injection ho with ho; subst ho
            exact eq_ok (neg := true) hR hh.1 hh.2.1 hh.2.2 (ev_ok he h1) (ev_ok he h2) h
          · cases ho
        · cases ho
      · injection ho with ho; subst ho
        exact bin_ok hR (ev_ok he h1) (ev_ok he h2) h
    · cases ho
  case unOp op t x =>
    obtain ⟨ax, hx, rfl⟩ := opt_map ho
    simp only [execOp, hop]
    exact un_ok hR (ev_ok he hx) h
  case convert s t x =>
    split at ho
    · rename_i h1 h2 h3
      injection ho with ho; subst ho
      simp only [execOp, hop]
      exact conv_ok hR h1 h2 (ev_ok he h3) h
    · cases ho
  case fieldAddr t x i =>
    split at ho
    · rename_i h1 h2
      injection ho with ho; subst ho
      simp only [execOp, hop]
      exact fadr_ok hR h1 (ev_ok he h2) h
    · cases ho
  case field t x i =>
    split at ho
    · rename_i h1 h2
      injection ho with ho; subst ho
      simp only [execOp, hop]
      exact field_ok hR h1 (ev_ok he h2) h
    · cases ho
  case indexAddr t x i =>
    split at ho
    · rename_i ax ai h1 h2
      simp only [execOp, hop]
      split at ho
      · rename_i e hu
        split at ho
        · rename_i j hj
          injection ho with ho; subst ho
          obtain ⟨k, n, hc, h'⟩ := intOp (Q := fun n => aidxP P j.size (ev env ax) n A K Kp) (ev_ok he h2) h
          rw [hc]
          exact idx_ok hR hu (by simp [hj]) (ev_ok he h1) (aidxP_of (hni _ _ _ rfl) h')
        · cases ho
      · split at ho
        · rename_i m sz ints hT
          injection ho with ho; subst ho
          obtain ⟨k, n, hc, h'⟩ := intOp (Q := fun n => aidxA m sz ints (ev env ax) n A K) (ev_ok he h2) h
          rw [hc]
          exact idxA_ok hR hT (ev_ok he h1) h'
        · cases ho
    · cases ho
  case slice t x lo hi mx =>
    cases mx with
    | some m =>
      simp only at ho
      split at ho
      · rename_i ax al k nn k' nn' h1 h2 h3 h4
        simp only [execOp, hop]
        split at ho
        · rename_i e hu
          split at ho
          · rename_i j hj
            split at ho
            · rename_i hc
              obtain ⟨rfl, rfl, hs1⟩ := hc
              injection ho with ho; subst ho
              have hm : a.eval m = .int k' nn' := TV_int.1 (ev_ok he h4)
              have hh : hi.map a.eval = some (.int k' nn') := by
                rcases TVo he h3 with ⟨e1, _⟩ | ⟨v, c, e1, e2, ht⟩
                · cases e1
                · injection e1 with e1; subst e1
                  rw [e2, TV_int.1 ht]
              exact slc_ok' (.inr ⟨by rw [hh, Option.map_some, hm], by rw [hh]; simp, hs1⟩) hR hu (by simp [hj]) (ev_ok he h1) (TVo he h2) (TVo he h3) h.1 h.2
            · cases ho
          · cases ho
        · cases ho
      · cases ho
    | none =>
      simp only at ho
      split at ho
      · rename_i ax al ah h1 h2 h3
        simp only [execOp, hop]
        split at ho
        · rename_i e hu
          split at ho
          · rename_i j hj
            injection ho with ho; subst ho
            exact slc_ok hR hu (by simp [hj]) (ev_ok he h1) (TVo he h2) (TVo he h3) h.1 h.2
          · cases ho
        · split at ho
          · rename_i m hm
            injection ho with ho; subst ho
            exact slcA_ok hR hm (ev_ok he h1) (TVo he h2) (TVo he h3) h
          · cases ho
      · cases ho
  case sliceToArrayPointer t x =>
    split at ho
    · rename_i m ax h1 h2
      injection ho with ho; subst ho
      simp only [execOp, hop]
      exact s2a_ok hR h1 (ev_ok he h2) h
    · cases ho
  case makeSlice t l c => (repeat' (first | (cases ho; done) | (injection ho with ho; subst ho; cases hf; done) | split at ho))
  case extract x i =>
    obtain ⟨ax, hx, rfl⟩ := opt_map ho
    simp only [execOp, hop]
    exact ext_ok hR (ev_ok he hx) h
  case panic x => obtain ⟨_, _, rfl⟩ := opt_map ho; cases hf
  case call c =>
    obtain ⟨callee, args, argTypes⟩ := c
    simp only at ho
    split at ho
    · split at ho
      · obtain ⟨l, hl, rfl⟩ := opt_map ho
        cases hf
      · cases ho
    · obtain ⟨l, hl, rfl⟩ := opt_map ho
      cases hf
    · rename_i b
      unfold trBuiltin at ho
      split at ho
      · rename_i x t ha ht
        split at ho
        · rename_i s ax h1 h2
          injection ho with ho; subst ho
          have ea : args = #[x] := by rw [← Array.toArray_toList (xs := args), ha]
          have et : argTypes = #[t] := by rw [← Array.toArray_toList (xs := argTypes), ht]
          subst ea; subst et
          have := len_ok (ty := o.type) hR h1 (ev_ok he h2) h
          simp only [execOp, hop, resolve, invoke, builtin, Sem.run_bind, Sem.run_pure, Result.andThen_ok] at this ⊢
          simpa using this
        · cases ho
      · rename_i d s t u ha ht
        split at ho
        · rename_i e ad as hu h1 h2
          split at ho
          · rename_i hsrc
            have ea : args = #[d, s] := by rw [← Array.toArray_toList (xs := args), ha]
            have et : argTypes = #[t, u] := by rw [← Array.toArray_toList (xs := argTypes), ht]
            subst ea; subst et
            split at ho
            · rename_i sz bytes z hel
              obtain ⟨i, zv, hi, rfl, rfl, hzz, hzs, hp, hby, hv⟩ := elOf_ok hel
              split at ho
              · rename_i k hk
                split at ho
                · rename_i hsz
                  injection ho with ho; subst ho; cases hf
                · cases ho
              · injection ho with ho; subst ho; cases hf
            · cases ho
          · cases ho
        · cases ho
      · cases ho
    · cases ho

/-- The operations that call no function of the program. -/
theorem op_ok0 {o : Oper} {ao : AOp} (ho : trOp0 P o.op = some ao) (hnc : ao.acts = false) (hni : ∀ sz x i, ao = .idx sz x i → ev env x ≠ .nilS) (hR : Rep E A w) (he : EnvR E env a) (h : aop P ao env A K Kp) :
    Res E w K ((execOp a.eval o).run P w) := by
  by_cases hfl : ao.floats = true
  · exact (fl_ok0 ho hfl hni hR he h).res hR
  cases hop : o.op <;> rw [hop] at ho <;> simp only [trOp0] at ho <;> try (cases ho; done)
  case slice t x lo hi mx =>
    cases mx <;> simp only [trOp0] at ho <;> (repeat' (first | (cases ho; done) | (injection ho with ho; subst ho; exact absurd rfl hfl) | split at ho))
  case alloc t =>
    obtain ⟨z, hz, rfl⟩ := opt_map ho
    simp only [execOp, hop]
    exact alloc_ok hR hz h
  case box t x =>
    split at ho
    · rename_i h1 h2
      injection ho with ho; subst ho
      simp only [execOp, hop]
      exact box_ok hR (ev_ok he h2) h.1 h.2
    · cases ho
  case buildSlice t len ps =>
    split at ho
    · rename_i e hu
      split at ho
      · rename_i sz bytes z sh sz' xs h1 h2 h3
        split at ho
        · rename_i hh
          split at ho
          · rename_i k hk
            split at ho
            · rename_i hsz; subst hsz
              injection ho with ho; subst ho
              simp only [execOp, hop]
              refine Res.irow (e := e) (k := k) (bsl_ok (sh := .sc) hR he hu h1 h3 hh.1 hh.2 ?_)
              have h' : abslI e k xs env A K := h
              unfold abslI at h'
              unfold absl
              split at h'
              · rename_i l hl
                split at h'
                · rename_i ys hys
                  intro g hg
                  refine ⟨A, g, ys, ?_, h' g hg⟩
                  congr 2
                  clear h' hl h
                  induction l generalizing ys with
                  | nil => simp [intsOf] at hys; subst hys; rfl
                  | cons v r ih =>
                    cases v <;> simp only [intsOf] at hys <;> try (cases hys)
                    split at hys
                    · rename_i e'; subst e'
                      obtain ⟨y, hy, rfl⟩ := opt_map hys
                      simp [ih y hy]
                    · cases hys
                · exact h'.elim
              · exact h'.elim
            · cases ho
          · injection ho with ho; subst ho
            simp only [execOp, hop]
            exact bsl_ok hR he hu h1 h3 hh.1 hh.2 h
        · cases ho
      · cases ho
    · cases ho
  case store t p x =>
    split at ho
    · rename_i h1 h2 h3
      injection ho with ho; subst ho
      simp only [execOp, hop]
      exact store_ok hR h1 (ev_ok he h2) (ev_ok he h3) h.1 h.2
    · cases ho
  case makeSlice t l c =>
    split at ho
    · rename_i e al ac hu h1 h2
      simp only [execOp, hop]
      split at ho
      · rename_i sz bytes z hel
        split at ho
        · rename_i k hk
          split at ho
          · split at ho
            · rename_i hh
              obtain ⟨rfl, rfl, rfl⟩ := hh
              injection ho with ho; subst ho
              exact mkI_ok hR hu hel (ev_ok he h1) (ev_ok he h2) h
            · cases ho
          · cases ho
        · injection ho with ho; subst ho
          exact mk_ok hR hu hel (ev_ok he h1) (ev_ok he h2) h
      · cases ho
    · cases ho
  case panic x => obtain ⟨_, _, rfl⟩ := opt_map ho; cases hnc
  case call c =>
    obtain ⟨callee, args, argTypes⟩ := c
    simp only at ho
    split at ho
    · split at ho
      · obtain ⟨l, hl, rfl⟩ := opt_map ho
        cases hnc
      · cases ho
    · obtain ⟨l, hl, rfl⟩ := opt_map ho
      cases hnc
    · rename_i b
      unfold trBuiltin at ho
      split at ho
      · rename_i x t ha ht
        split at ho
        · rename_i s ax h1 h2
          injection ho with ho; subst ho
          have ea : args = #[x] := by rw [← Array.toArray_toList (xs := args), ha]
          have et : argTypes = #[t] := by rw [← Array.toArray_toList (xs := argTypes), ht]
          subst ea; subst et
          exact absurd rfl hfl
        · cases ho
      · rename_i d s t u ha ht
        split at ho
        · rename_i e ad as hu h1 h2
          split at ho
          · rename_i hsrc
            have ea : args = #[d, s] := by rw [← Array.toArray_toList (xs := args), ha]
            have et : argTypes = #[t, u] := by rw [← Array.toArray_toList (xs := argTypes), ht]
            subst ea; subst et
            split at ho
            · rename_i sz bytes z hel
              obtain ⟨i, zv, hi, rfl, rfl, hzz, hzs, hp, hby, hv⟩ := elOf_ok hel
              split at ho
              · rename_i k hk
                split at ho
                · rename_i hsz
                  injection ho with ho; subst ho
                  have := appI_ok (ty := o.type) hR hu hsrc hi hzz hzs hsz hby (ev_ok he h1) (ev_ok he h2) h
                  simp only [execOp, hop, resolve, invoke, builtin, Sem.run_bind, Sem.run_pure, Result.andThen_ok] at this ⊢
                  simpa using this
                · cases ho
              · injection ho with ho; subst ho
                have := app_ok (ty := o.type) hR hu hsrc hi hzz hzs hby (ev_ok he h1) (ev_ok he h2) h
                simp only [execOp, hop, resolve, invoke, builtin, Sem.run_bind, Sem.run_pure, Result.andThen_ok] at this ⊢
                simpa using this
            · cases ho
          · cases ho
        · cases ho
      · cases ho
    · cases ho
  all_goals (repeat' (first | (cases ho; done) | (injection ho with ho; subst ho; exact absurd rfl hfl) | (obtain ⟨_, _, e⟩ := opt_map ho; subst e; exact absurd rfl hfl) | split at ho))
theorem trOs_ev (he : EnvR E env a) : ∀ (ys : List Operand) (xs : List AO), trOs ys = some xs → TVl E (xs.map (ev env)) (ys.map a.eval)
  | [], xs, h => by simp only [trOs] at h; injection h with h; subst h; exact TVl_nil.2 rfl
  | y :: r, xs, h => by
    simp only [trOs] at h
    split at h
    · rename_i ax l h1 h2
      injection h with h; subst h
      exact TVl_cons.2 ⟨_, _, rfl, ev_ok he h1, trOs_ev he r l h2⟩
    · cases h
theorem x_ok {o : Oper} {xo : XOp} {ys : List Operand} {vs : List AV} (ho : trX P o.op = some (xo, ys)) (hR : Rep E A w) (hv : TVl E vs (ys.map a.eval)) (h : xop xo vs A K) :
    (xo.floats = true → ResW E A w K ((execOp a.eval o).run P w)) ∧ (xo.floats = false → Res E w K ((execOp a.eval o).run P w)) := by
  have one : ∀ {c : Value}, TVl E vs [c] → ∃ x, vs = [x] ∧ TV E x c := by
    intro c hv
    match vs, hv with
    | [], hv => rw [TVl_nil] at hv; cases hv
    | x :: r, hv =>
      obtain ⟨c', cr, e, hx, hr⟩ := TVl_cons.1 hv
      injection e with e1 e2; subst e1; subst e2
      match r, hr with
      | [], _ => exact ⟨x, rfl, hx⟩
      | y :: _, hr => obtain ⟨_, _, e, _⟩ := TVl_cons.1 hr; cases e
  have two : ∀ {c d : Value}, TVl E vs [c, d] → ∃ x y, vs = [x, y] ∧ TV E x c ∧ TV E y d := by
    intro c d hv
    match vs, hv with
    | [], hv => rw [TVl_nil] at hv; cases hv
    | x :: r, hv =>
      obtain ⟨c', cr, e, hx, hr⟩ := TVl_cons.1 hv
      injection e with e1 e2; subst e1; subst e2
      match r, hr with
      | [], hr => rw [TVl_nil] at hr; cases hr
      | y :: r, hr =>
        obtain ⟨c', cr, e, hy, hr⟩ := TVl_cons.1 hr
        injection e with e1 e2; subst e1; subst e2
        match r, hr with
        | [], _ => exact ⟨x, y, rfl, hx, hy⟩
        | _ :: _, hr => obtain ⟨_, _, e, _⟩ := TVl_cons.1 hr; cases e
  by_cases hp : ∃ po, xo = .p po
  · obtain ⟨po, rfl⟩ := hp
    refine ⟨fun _ => ?_, fun hf => by cases hf⟩
    simp only [xop] at h
    split at h
    · rename_i v hpv
      obtain ⟨c, h1, h2⟩ := p_ok (P := P) (w := w) ho hv hpv
      exact ResV.wk ⟨v, c, h, h1, h2⟩ hR
    · exact h.elim
  cases hop : o.op <;> rw [hop] at ho <;> simp only [trX] at ho <;> try (cases ho; done)
  case binOp => exact absurd (by (repeat' split at ho) <;> first | (cases ho; done) | (injection ho with ho; injection ho with ho _; exact ⟨_, ho.symm⟩)) hp
  case makeInterface => exact absurd (by (repeat' split at ho) <;> first | (cases ho; done) | (injection ho with ho; injection ho with ho _; exact ⟨_, ho.symm⟩)) hp
  case makeFunc => exact absurd (by (repeat' split at ho) <;> first | (cases ho; done) | (injection ho with ho; injection ho with ho _; exact ⟨_, ho.symm⟩)) hp
  case nilCheck => exact absurd (by injection ho with ho; injection ho with ho _; exact ⟨_, ho.symm⟩) hp
  case slice => exact absurd (by (repeat' split at ho) <;> first | (cases ho; done) | (injection ho with ho; injection ho with ho _; exact ⟨_, ho.symm⟩)) hp
  case makeMap t r =>
    split at ho
    · rename_i k e ht
      simp only [Option.map_eq_some_iff] at ho
      obtain ⟨kd, hk, ho⟩ := ho
      injection ho with e1 e2; subst e1; subst e2
      refine ⟨fun hf => (by cases hf), fun _ => ?_⟩
      have : vs = [] := by
        cases vs with
        | nil => rfl
        | cons x r => obtain ⟨_, _, e, _⟩ := TVl_cons.1 hv; cases e
      subst this
      simp only [execOp, hop, Option.map_none]
      exact mkM_ok (t := t) (k := k) (e := e) hR h
    · cases ho
  case mapUpdate t m x y =>
    split at ho
    · rename_i k e ht
      simp only [Option.map_eq_some_iff] at ho
      obtain ⟨kd, hk, ho⟩ := ho
      injection ho with e1 e2; subst e1; subst e2
      refine ⟨fun hf => (by cases hf), fun _ => ?_⟩
      match vs, hv with
      | [], hv => rw [TVl_nil] at hv; cases hv
      | v1 :: r, hv =>
        obtain ⟨c1, cr, e0, h1, hr⟩ := TVl_cons.1 hv
        injection e0 with e1 e2; subst e1; subst e2
        match r, hr with
        | [], hr => rw [TVl_nil] at hr; cases hr
        | v2 :: r, hr =>
          obtain ⟨c2, cr, e0, h2, hr⟩ := TVl_cons.1 hr
          injection e0 with e1 e2; subst e1; subst e2
          match r, hr with
          | [], hr => rw [TVl_nil] at hr; cases hr
          | v3 :: r, hr =>
            obtain ⟨c3, cr, e0, h3, hr⟩ := TVl_cons.1 hr
            injection e0 with e1 e2; subst e1; subst e2
            match r, hr with
            | [], _ =>
              simp only [execOp, hop]
              exact upM_ok hR ht hk h1 h2 h3 h
            | _ :: _, hr => obtain ⟨_, _, e, _⟩ := TVl_cons.1 hr; cases e
    · cases ho
  case lookup t m x ok =>
    split at ho
    · rename_i k e ht
      split at ho
      · rename_i kd sz by' z hk hz
        split at ho
        · rename_i hzk
          injection ho with ho; injection ho with e1 e2; subst e1; subst e2
          refine ⟨fun hf => (by cases hf), fun _ => ?_⟩
          obtain ⟨v1, v2, rfl, h1, h2⟩ := two hv
          simp only [execOp, hop]
          exact (lkM_ok hR ht hk hz hzk h1 h2 h).res hR
        · cases ho
      · cases ho
    · cases ho
  case typeAssert => exact absurd (by (repeat' split at ho) <;> first | (cases ho; done) | (injection ho with ho; injection ho with ho _; exact ⟨_, ho.symm⟩)) hp
  case convert s t x =>
    split at ho
    · rename_i e e' h1 h2
      split at ho
      · rename_i hh
        injection ho with ho; injection ho with e1 e2; subst e1; subst e2
        refine ⟨fun _ => ?_, fun hf => by cases hf⟩
        obtain ⟨x', rfl, hx⟩ := one hv
        simp only [execOp, hop]
        exact seal_ok hR h1 h2 hh.1 (isU8_ok hh.2) hx h
      · cases ho
    · rename_i e h1 h2
      split at ho
      · rename_i hh
        injection ho with ho; injection ho with e1 e2; subst e1; subst e2
        refine ⟨fun _ => ?_, fun hf => by cases hf⟩
        obtain ⟨x', rfl, hx⟩ := one hv
        simp only [execOp, hop]
        exact (bstr_ok hR h1 h2 (isU8_ok hh) hx h).wk hR
      · cases ho
    · rename_i e h1 h2
      split at ho
      · rename_i hh
        injection ho with ho; injection ho with e1 e2; subst e1; subst e2
        refine ⟨fun hf => (by cases hf), fun _ => ?_⟩
        obtain ⟨x', rfl, hx⟩ := one hv
        simp only [execOp, hop]
        exact strB_ok hR h1 h2 (isU8_ok hh) hx h
      · cases ho
    · cases ho
  case index t x i =>
    split at ho
    · rename_i m e h1
      split at ho
      · rename_i sh sz h2
        injection ho with ho; injection ho with e1 e2; subst e1; subst e2
        refine ⟨fun _ => ?_, fun hf => by cases hf⟩
        obtain ⟨x', i', rfl, hx, hi⟩ := two hv
        simp only [execOp, hop]
        exact (idxV_ok hR h1 h2 hx hi h).wk hR
      · cases ho
    · exact absurd (by injection ho with ho; injection ho with ho _; exact ⟨_, ho.symm⟩) hp
    · cases ho
  case call c =>
    split at ho
    · rename_i d s t u hcal hargs htys
      split at ho
      · rename_i e k' ht hu
        split at ho
        · rename_i sz bytes k nz k2 hel hik
          split at ho
          · rename_i hh
            obtain ⟨rfl, rfl, rfl⟩ := hh
            injection ho with ho; injection ho with e1 e2; subst e1; subst e2
            refine ⟨fun hf => (by cases hf), fun _ => ?_⟩
            obtain ⟨x', s', rfl, hx, hs⟩ := two hv
            obtain ⟨i, zv, hi, hsz, rfl, hz, hzs, hp, hby, hvr⟩ := elOf_ok hel
            have hzc : zv.cells = #[.int k 0] := by
              have := hvr { loc := fun _ => ⟨none, 0, 0⟩, N := 0, F := fun _ => none }
              simp only [VR] at this
              rw [← Array.toArray_toList (xs := zv.cells), this]
            obtain ⟨callee, args, argTypes⟩ := c
            simp only at hcal hargs htys
            subst hcal
            have ea : args = #[d, s] := by rw [← Array.toArray_toList (xs := args), hargs]
            have et : argTypes = #[t, u] := by rw [← Array.toArray_toList (xs := argTypes), htys]
            subst ea; subst et
            have := appZ_ok (ty := o.type) hR ht hu hi hz hzc hsz hby hx hs h
            simp only [execOp, hop, resolve, invoke, builtin, Sem.run_bind, Sem.run_pure, Result.andThen_ok] at this ⊢
            simpa using this
          · cases ho
        · cases ho
      · cases ho
    · rename_i d s t u hcal hargs htys
      split at ho
      · rename_i e ht
        split at ho
        · rename_i sz by' z k hel hik
          split at ho
          · rename_i hh
            subst hh
            injection ho with ho; injection ho with e1 e2; subst e1; subst e2
            refine ⟨fun hf => (by cases hf), fun _ => ?_⟩
            obtain ⟨x', s', rfl, hx, hs⟩ := two hv
            obtain ⟨i, zv, hi, hsz, _⟩ := elOf_ok hel
            obtain ⟨callee, args, argTypes⟩ := c
            simp only at hcal hargs htys
            subst hcal
            have ea : args = #[d, s] := by rw [← Array.toArray_toList (xs := args), hargs]
            have et : argTypes = #[t, u] := by rw [← Array.toArray_toList (xs := argTypes), htys]
            subst ea; subst et
            have := copy_ok (ty := o.type) (tx := u) hR ht hi hsz hx hs h
            simp only [execOp, hop, resolve, invoke, builtin, Sem.run_bind, Sem.run_pure, Result.andThen_ok] at this ⊢
            simpa using this
          · cases ho
        · cases ho
      · cases ho
    · rename_i d t hcal hargs htys
      split at ho
      · rename_i e ht
        split at ho
        · rename_i sz by' z hel
          split at ho
          · rename_i hst
            injection ho with ho; injection ho with e1 e2; subst e1; subst e2
            refine ⟨fun hf => (by cases hf), fun _ => ?_⟩
            obtain ⟨x', rfl, hx⟩ := one hv
            obtain ⟨callee, args, argTypes⟩ := c
            simp only at hcal hargs htys
            subst hcal
            have ea : args = #[d] := by rw [← Array.toArray_toList (xs := args), hargs]
            have et : argTypes = #[t] := by rw [← Array.toArray_toList (xs := argTypes), htys]
            subst ea; subst et
            have := clr_ok (ty := o.type) hR ht hel hst hx h
            simp only [execOp, hop, resolve, invoke, builtin, Sem.run_bind, Sem.run_pure, Result.andThen_ok] at this ⊢
            simpa using this
          · cases ho
        · cases ho
      · cases ho
    · exact absurd (by injection ho with ho; injection ho with ho _; exact ⟨_, ho.symm⟩) hp
    · exact absurd (by injection ho with ho; injection ho with ho _; exact ⟨_, ho.symm⟩) hp
    · cases ho
theorem trOp_cases {P : Program} {o : Op} {ao : AOp} (h : trOp P o = some ao) : trOp0 P o = some ao ∨ ∃ xo ys xs, trX P o = some (xo, ys) ∧ trOs ys = some xs ∧ ao = .xx xo xs := by
  unfold trOp at h
  split at h
  · rename_i a ha; injection h with h; subst h; exact .inl ha
  · split at h
    · rename_i xo ys hx
      obtain ⟨xs, h1, h2⟩ := opt_map h
      exact .inr ⟨xo, ys, xs, hx, h1, h2⟩
    · cases h
theorem fl_ok {o : Oper} {ao : AOp} (ho : trOp P o.op = some ao) (hf : ao.floats = true) (hni : ∀ sz x i, ao = .idx sz x i → ev env x ≠ .nilS) (hR : Rep E A w) (he : EnvR E env a) (h : aop P ao env A K Kp) :
    ResW E A w K ((execOp a.eval o).run P w) := by
  rcases trOp_cases ho with ho | ⟨xo, ys, xs, h1, h2, rfl⟩
  · exact (fl_ok0 ho hf hni hR he h).wk hR
  · exact (x_ok h1 hR (trOs_ev he ys xs h2) h).1 hf
theorem op_ok {o : Oper} {ao : AOp} (ho : trOp P o.op = some ao) (hnc : ao.acts = false) (hni : ∀ sz x i, ao = .idx sz x i → ev env x ≠ .nilS) (hR : Rep E A w) (he : EnvR E env a) (h : aop P ao env A K Kp) :
    Res E w K ((execOp a.eval o).run P w) := by
  rcases trOp_cases ho with ho | ⟨xo, ys, xs, h1, h2, rfl⟩
  · exact op_ok0 ho hnc hni hR he h
  · cases hf : xo.floats with
    | true => exact ((x_ok h1 hR (trOs_ev he ys xs h2) h).1 hf).res
    | false => exact (x_ok h1 hR (trOs_ev he ys xs h2) h).2 hf
end
end AVL

/- Operations that float: one result, whatever is asked of it; what an operation looks at; weaker ends. -/
namespace AVL
open Go
set_option linter.unusedSimpArgs false
set_option linter.unusedVariables false

/-- One value: what is told of it, is told of the same one. -/
structure Uni (F : (AV → Prop) → Prop) : Prop where
  out : ∀ K₁ K₂, F K₁ → F K₂ → ∃ v, K₁ v ∧ K₂ v ∧ ∀ K, K v → F K

theorem Uni.leaf (v : AV) : Uni fun K => K v := ⟨fun _ _ h₁ h₂ => ⟨v, h₁, h₂, fun _ h => h⟩⟩
theorem Uni.and {F : (AV → Prop) → Prop} (h : Uni F) (p : Prop) : Uni fun K => p ∧ F K := ⟨fun K₁ K₂ h₁ h₂ => by
  obtain ⟨v, a, b, c⟩ := h.out K₁ K₂ h₁.2 h₂.2
  exact ⟨v, a, b, fun K hk => ⟨h₁.1, c K hk⟩⟩⟩
theorem Uni.no {F : (AV → Prop) → Prop} (h : ∀ K, ¬ F K) : Uni F := ⟨fun K₁ _ h₁ _ => absurd h₁ (h K₁)⟩

theorem uni_apick (c a b : AV) : Uni fun K => apick c a b K := by
  cases c <;> first | exact Uni.no (fun K h => h) | skip
  (first | exact Uni.leaf _ | exact (Uni.leaf _).and _ | exact ((Uni.leaf _).and _).and _ | exact (((Uni.leaf _).and _).and _).and _ | exact ((((Uni.leaf _).and _).and _).and _).and _)
theorem uni_abinI (op : BinOp) (k : IntKind) (a : Int) (k' : IntKind) (b : Int) : Uni fun K => abinI op k a k' b K := by
  cases op
  case quo => (first | exact Uni.leaf _ | exact (Uni.leaf _).and _ | exact ((Uni.leaf _).and _).and _ | exact (((Uni.leaf _).and _).and _).and _ | exact ((((Uni.leaf _).and _).and _).and _).and _)
  case rem => (first | exact Uni.leaf _ | exact (Uni.leaf _).and _ | exact ((Uni.leaf _).and _).and _ | exact (((Uni.leaf _).and _).and _).and _ | exact ((((Uni.leaf _).and _).and _).and _).and _)
  all_goals (first | exact Uni.leaf _ | exact (Uni.leaf _).and _ | exact ((Uni.leaf _).and _).and _ | exact (((Uni.leaf _).and _).and _).and _ | exact ((((Uni.leaf _).and _).and _).and _).and _)
theorem uni_abinS (op : BinOp) (a b : ByteArray) : Uni fun K => abinS op a b K := by
  cases op
  case add => (first | exact Uni.leaf _ | exact (Uni.leaf _).and _ | exact ((Uni.leaf _).and _).and _ | exact (((Uni.leaf _).and _).and _).and _ | exact ((((Uni.leaf _).and _).and _).and _).and _)
  case eql => (first | exact Uni.leaf _ | exact (Uni.leaf _).and _ | exact ((Uni.leaf _).and _).and _ | exact (((Uni.leaf _).and _).and _).and _ | exact ((((Uni.leaf _).and _).and _).and _).and _)
  case neq => (first | exact Uni.leaf _ | exact (Uni.leaf _).and _ | exact ((Uni.leaf _).and _).and _ | exact (((Uni.leaf _).and _).and _).and _ | exact ((((Uni.leaf _).and _).and _).and _).and _)
  case lss => (first | exact Uni.leaf _ | exact (Uni.leaf _).and _ | exact ((Uni.leaf _).and _).and _ | exact (((Uni.leaf _).and _).and _).and _ | exact ((((Uni.leaf _).and _).and _).and _).and _)
  case leq => (first | exact Uni.leaf _ | exact (Uni.leaf _).and _ | exact ((Uni.leaf _).and _).and _ | exact (((Uni.leaf _).and _).and _).and _ | exact ((((Uni.leaf _).and _).and _).and _).and _)
  case gtr => (first | exact Uni.leaf _ | exact (Uni.leaf _).and _ | exact ((Uni.leaf _).and _).and _ | exact (((Uni.leaf _).and _).and _).and _ | exact ((((Uni.leaf _).and _).and _).and _).and _)
  case geq => (first | exact Uni.leaf _ | exact (Uni.leaf _).and _ | exact ((Uni.leaf _).and _).and _ | exact (((Uni.leaf _).and _).and _).and _ | exact ((((Uni.leaf _).and _).and _).and _).and _)
  all_goals exact Uni.no (fun K h => h)
theorem uni_abin (op : BinOp) (x y : AV) : Uni fun K => abin op x y K := by
  cases x <;> first | (exact Uni.no (fun K h => h)) | skip
  all_goals cases y <;> first | (exact Uni.no (fun K h => h)) | (exact uni_abinI ..) | (exact uni_abinS ..)
theorem uni_aun (op : UnOp) (x : AV) : Uni fun K => aun op x K := by
  cases op <;> cases x <;> first | (exact Uni.no (fun K h => h)) | ((first | exact Uni.leaf _ | exact (Uni.leaf _).and _ | exact ((Uni.leaf _).and _).and _ | exact (((Uni.leaf _).and _).and _).and _ | exact ((((Uni.leaf _).and _).and _).and _).and _))
theorem uni_aconv (k : IntKind) (x : AV) : Uni fun K => aconv k x K := by
  cases x <;> first | (exact Uni.no (fun K h => h)) | ((first | exact Uni.leaf _ | exact (Uni.leaf _).and _ | exact ((Uni.leaf _).and _).and _ | exact (((Uni.leaf _).and _).and _).and _ | exact ((((Uni.leaf _).and _).and _).and _).and _))
theorem uni_aeq (et : ET) (neg : Bool) (x y : AV) : Uni fun K => aeq et neg x y K := by
  unfold aeq
  cases eqV et x y with
  | none => exact Uni.no (fun K h => h)
  | some b => (first | exact Uni.leaf _ | exact (Uni.leaf _).and _ | exact ((Uni.leaf _).and _).and _ | exact (((Uni.leaf _).and _).and _).and _ | exact ((((Uni.leaf _).and _).and _).and _).and _)
theorem uni_alen (s : Bool) (x : AV) : Uni fun K => alen s x K := by
  cases s <;> cases x <;> first | (exact Uni.no (fun K h => h)) | ((first | exact Uni.leaf _ | exact (Uni.leaf _).and _ | exact ((Uni.leaf _).and _).and _ | exact (((Uni.leaf _).and _).and _).and _ | exact ((((Uni.leaf _).and _).and _).and _).and _))
theorem uni_aext (i : Nat) (x : AV) : Uni fun K => aext i x K := by
  cases x <;> first | (exact Uni.no (fun K h => h)) | skip
  unfold aext
  rename_i l
  simp only
  cases l[i]? with
  | none => exact Uni.no (fun K h => h)
  | some v => (first | exact Uni.leaf _ | exact (Uni.leaf _).and _ | exact ((Uni.leaf _).and _).and _ | exact (((Uni.leaf _).and _).and _).and _ | exact ((((Uni.leaf _).and _).and _).and _).and _)
theorem uni_getC (l : List AV) (off sz : Nat) (sh : Sh) (f : AV → AV) : Uni fun K => (match getC l off sz sh with | some v => K (f v) | none => False) := by
  cases getC l off sz sh with
  | none => exact Uni.no (fun K h => h)
  | some v => (first | exact Uni.leaf _ | exact (Uni.leaf _).and _ | exact ((Uni.leaf _).and _).and _ | exact (((Uni.leaf _).and _).and _).and _ | exact ((((Uni.leaf _).and _).and _).and _).and _)
theorem uni_afield (off sz : Nat) (sh : Sh) (x : AV) (A : Heap) : Uni fun K => afield off sz sh x A fun v _ => K v := by
  cases x <;> first | (exact Uni.no (fun K h => h)) | exact uni_getC _ _ _ _ id
theorem uni_afadr (off sz : Nat) (sh : Sh) (x : AV) (A : Heap) : Uni fun K => afadr off sz sh x A fun v _ => K v := by
  cases x <;> first | (exact Uni.no (fun K h => h)) | exact uni_getC _ _ _ _ AV.pval | ((first | exact Uni.leaf _ | exact (Uni.leaf _).and _ | exact ((Uni.leaf _).and _).and _ | exact (((Uni.leaf _).and _).and _).and _ | exact ((((Uni.leaf _).and _).and _).and _).and _))
theorem uni_abuild (sh : Sh) (z : List AV) (qs : List (Nat × Nat × AO)) (env : AEnv) (A : Heap) : Uni fun K => abuild sh z qs env A fun v _ => K v := by
  unfold abuild
  cases foldP env z qs with
  | none => exact Uni.no (fun K h => h)
  | some l =>
    simp only
    cases shp sh l with
    | none => exact Uni.no (fun K h => h)
    | some v => (first | exact Uni.leaf _ | exact (Uni.leaf _).and _ | exact ((Uni.leaf _).and _).and _ | exact (((Uni.leaf _).and _).and _).and _ | exact ((((Uni.leaf _).and _).and _).and _).and _)
theorem uni_aload (sh : Sh) (sz : Nat) (p : AV) (A : Heap) : Uni fun K => aload sh sz p A fun v _ => K v := by
  cases p <;> first | (exact Uni.no (fun K h => h)) | skip
  · rename_i g o
    simp only [aload]
    cases A g with
    | none => exact Uni.no (fun K h => h)
    | some c => cases c <;> first | (exact Uni.no (fun K h => h)) | exact uni_getC _ _ _ _ id
  · rename_i g o m i
    simp only [aload]
    cases A g with
    | none => exact Uni.no (fun K h => h)
    | some c =>
      cases c <;> first | (exact Uni.no (fun K h => h)) | skip
      simp only
      cases getI _ o m with
      | none => exact Uni.no (fun K h => h)
      | some kx =>
        cases sh with
        | sc => (first | exact Uni.leaf _ | exact (Uni.leaf _).and _ | exact ((Uni.leaf _).and _).and _ | exact (((Uni.leaf _).and _).and _).and _ | exact ((((Uni.leaf _).and _).and _).and _).and _)
        | ag => exact Uni.no (fun K h => h)
        | ia k' n => (first | exact Uni.leaf _ | exact (Uni.leaf _).and _ | exact ((Uni.leaf _).and _).and _ | exact (((Uni.leaf _).and _).and _).and _ | exact ((((Uni.leaf _).and _).and _).and _).and _)
  · rename_i g i o
    simp only [aload]
    cases A g with
    | none => exact Uni.no (fun K h => h)
    | some c =>
      cases c with
      | var _ _ => exact Uni.no (fun K h => h)
      | mp _ _ => exact Uni.no (fun K h => h)
      | srow _ _ _ => exact Uni.no (fun K h => h)
      | lp _ _ _ _ _ => exact Uni.no (fun K h => h)
      | irow t k l =>
        cases sh with
        | sc => (first | exact Uni.leaf _ | exact (Uni.leaf _).and _ | exact ((Uni.leaf _).and _).and _ | exact (((Uni.leaf _).and _).and _).and _ | exact ((((Uni.leaf _).and _).and _).and _).and _)
        | ag => exact Uni.no (fun K h => h)
        | ia k' n => (first | exact Uni.leaf _ | exact (Uni.leaf _).and _ | exact ((Uni.leaf _).and _).and _ | exact (((Uni.leaf _).and _).and _).and _ | exact ((((Uni.leaf _).and _).and _).and _).and _)
      | row t s l =>
        simp only
        by_cases h : i < l.length
        · have := uni_getC (comps l[i]) o sz sh id
          refine ⟨fun K₁ K₂ h₁ h₂ => ?_⟩
          obtain ⟨_, h₁⟩ := h₁
          obtain ⟨_, h₂⟩ := h₂
          obtain ⟨v, a, b, c⟩ := this.out K₁ K₂ h₁ h₂
          exact ⟨v, a, b, fun K hk => ⟨h, c K hk⟩⟩
        · exact Uni.no (fun K hh => h hh.1)
  · exact uni_getC _ _ _ _ id
theorem uni_aidx (sz : Nat) (x : AV) (i : Int) (A : Heap) : Uni fun K => aidx sz x i A fun v _ => K v := by
  cases x <;> first | (exact Uni.no (fun K h => h)) | skip
  case isl k l => (first | exact Uni.leaf _ | exact (Uni.leaf _).and _ | exact ((Uni.leaf _).and _).and _ | exact (((Uni.leaf _).and _).and _).and _ | exact ((((Uni.leaf _).and _).and _).and _).and _)
  case dsl s l =>
    simp only [aidx]
    refine Uni.and (Uni.and ?_ _) _
    by_cases h : i.toNat < l.length
    · exact ⟨fun K₁ K₂ h₁ h₂ => ⟨.pval l[i.toNat], h₁.2, h₂.2, fun K hk => ⟨h, hk⟩⟩⟩
    · exact Uni.no (fun K hh => h hh.1)
  case own g i0 n => exact ((((Uni.leaf _).and _).and _).and _)
  case asl g o m i0 n => (first | exact Uni.leaf _ | exact (Uni.leaf _).and _ | exact ((Uni.leaf _).and _).and _ | exact (((Uni.leaf _).and _).and _).and _ | exact ((((Uni.leaf _).and _).and _).and _).and _)
theorem uni_aidxP {P : Program} (sz : Nat) (x : AV) (i : Int) (A : Heap) : Uni fun K => aidxP P sz x i A (fun v _ => K v) (fun _ _ => False) := by
  by_cases hx : x = .nilS
  · subst hx; exact Uni.no (fun K h => h true)
  · simp only [aidxP_eq hx]; exact uni_aidx sz x i A
theorem uni_aidxA (m sz : Nat) (ints : Bool) (x : AV) (i : Int) (A : Heap) : Uni fun K => aidxA m sz ints x i A fun v _ => K v := by
  cases x <;> first | (exact Uni.no (fun K h => h)) | skip
  case ptr g o =>
    cases ints <;> (first | exact Uni.leaf _ | exact (Uni.leaf _).and _ | exact ((Uni.leaf _).and _).and _ | exact (((Uni.leaf _).and _).and _).and _ | exact ((((Uni.leaf _).and _).and _).and _).and _)
  case pel g j o =>
    cases ints
    · (first | exact Uni.leaf _ | exact (Uni.leaf _).and _ | exact ((Uni.leaf _).and _).and _ | exact (((Uni.leaf _).and _).and _).and _ | exact ((((Uni.leaf _).and _).and _).and _).and _)
    · (first | exact Uni.leaf _ | exact (Uni.leaf _).and _ | exact ((Uni.leaf _).and _).and _ | exact (((Uni.leaf _).and _).and _).and _)
  case pval v =>
    cases v <;> first | (exact Uni.no (fun K h => h)) | skip
    rename_i k m' l
    (first | exact Uni.leaf _ | exact (Uni.leaf _).and _ | exact ((Uni.leaf _).and _).and _ | exact (((Uni.leaf _).and _).and _).and _ | exact ((((Uni.leaf _).and _).and _).and _).and _)
theorem uni_bnd (o : Option AV) (d : Int) {F : Int → (AV → Prop) → Prop} (h : ∀ n, Uni (F n)) : Uni fun K => bnd o d fun n => F n K := by
  cases o with
  | none => exact h d
  | some a => cases a <;> first | (exact Uni.no (fun K h => h)) | exact h _
theorem uni_aslc (x : AV) (lo hi : Option AV) (A : Heap) : Uni fun K => aslc x lo hi A fun v _ => K v := by
  cases x <;> first | (exact Uni.no (fun K h => h)) | skip
  all_goals
    simp only [aslc]
    refine uni_bnd lo 0 (fun l => uni_bnd hi _ (fun h => ?_))
  case nilS => (first | exact Uni.leaf _ | exact (Uni.leaf _).and _ | exact ((Uni.leaf _).and _).and _ | exact (((Uni.leaf _).and _).and _).and _ | exact ((((Uni.leaf _).and _).and _).and _).and _)
  case isl k xs => (first | exact Uni.leaf _ | exact (Uni.leaf _).and _ | exact ((Uni.leaf _).and _).and _ | exact (((Uni.leaf _).and _).and _).and _ | exact ((((Uni.leaf _).and _).and _).and _).and _)
  case dsl s xs => (first | exact Uni.leaf _ | exact (Uni.leaf _).and _ | exact ((Uni.leaf _).and _).and _ | exact (((Uni.leaf _).and _).and _).and _ | exact ((((Uni.leaf _).and _).and _).and _).and _)
  case own g i n => (first | exact Uni.leaf _ | exact (Uni.leaf _).and _ | exact ((Uni.leaf _).and _).and _ | exact (((Uni.leaf _).and _).and _).and _ | exact ((((Uni.leaf _).and _).and _).and _).and _)
  case asl g o m i n => (first | exact Uni.leaf _ | exact (Uni.leaf _).and _ | exact ((Uni.leaf _).and _).and _ | exact (((Uni.leaf _).and _).and _).and _ | exact ((((Uni.leaf _).and _).and _).and _).and _)
theorem uni_aslcA (m : Nat) (x : AV) (lo hi : Option AV) (A : Heap) : Uni fun K => aslcA m x lo hi A fun v _ => K v := by
  cases x <;> first | (exact Uni.no (fun K h => h)) | skip
  case ptr g o =>
    simp only [aslcA]
    refine uni_bnd lo 0 (fun l => uni_bnd hi _ (fun h => ?_))
    (first | exact Uni.leaf _ | exact (Uni.leaf _).and _ | exact ((Uni.leaf _).and _).and _ | exact (((Uni.leaf _).and _).and _).and _ | exact ((((Uni.leaf _).and _).and _).and _).and _)
  case pval v =>
    cases v <;> first | (exact Uni.no (fun K h => h)) | skip
    rename_i k m' xs
    simp only [aslcA]
    refine Uni.and (Uni.and (uni_bnd lo 0 (fun l => uni_bnd hi _ (fun h => ?_))) _) _
    (first | exact Uni.leaf _ | exact (Uni.leaf _).and _ | exact ((Uni.leaf _).and _).and _ | exact (((Uni.leaf _).and _).and _).and _ | exact ((((Uni.leaf _).and _).and _).and _).and _)
theorem uni_as2a (m : Nat) (x : AV) (A : Heap) : Uni fun K => as2a m x A fun v _ => K v := by
  refine Uni.and ?_ _
  cases x <;> first | (exact Uni.no (fun K h => h)) | ((first | exact Uni.leaf _ | exact (Uni.leaf _).and _ | exact ((Uni.leaf _).and _).and _ | exact (((Uni.leaf _).and _).and _).and _ | exact ((((Uni.leaf _).and _).and _).and _).and _))

theorem uni_srcI {k : IntKind} (s : AV) (A : Heap) (f : List Int → AV) : Uni fun K => srcI k s A fun l => K (f l) := by
  cases s <;> first | (exact Uni.no (fun K h => h)) | skip
  case nilS => exact Uni.leaf _
  case isl => exact (Uni.leaf _).and _
  case str => exact (Uni.leaf _).and _
  case own g i n =>
    simp only [srcI]
    cases A g with
    | none => exact Uni.no (fun K h => h)
    | some c => cases c <;> first | (exact Uni.no (fun K h => h)) | (exact ((Uni.leaf _).and _).and _)
  case asl g o m i n =>
    simp only [srcI]
    cases A g with
    | none => exact Uni.no (fun K h => h)
    | some c =>
      cases c <;> first | (exact Uni.no (fun K h => h)) | skip
      simp only
      cases getI _ o m with
      | none => exact Uni.no (fun K h => h)
      | some kx => exact ((Uni.leaf _).and _).and _
theorem uni_xop (o : XOp) (ho : o.floats = true) (xs : List AV) (A : Heap) : Uni fun K => xop o xs A fun v _ => K v := by
  cases o <;> simp only [XOp.floats, Bool.false_eq_true] at ho
  case p po =>
    simp only [xop]
    cases pop po xs with
    | none => exact Uni.no (fun K h => h)
    | some v => exact Uni.leaf _
  case sealB =>
    match xs with
    | [] => exact Uni.no (fun K h => h)
    | [x] =>
      cases x <;> first | (exact Uni.no (fun K h => h)) | skip
      rename_i g i n
      simp only [xop]
      cases A g with
      | none => exact Uni.no (fun K h => h.2)
      | some c => cases c <;> first | (exact Uni.no (fun K h => h.2)) | (exact ((Uni.leaf _).and _).and _)
    | _ :: _ :: _ => exact Uni.no (fun K h => h)
  case bstr =>
    match xs with
    | [] => exact Uni.no (fun K h => h)
    | [x] => exact (uni_srcI x A _).and _
    | _ :: _ :: _ => exact Uni.no (fun K h => h)
  case idxV m sz sh =>
    match xs with
    | [] => exact Uni.no (fun K h => h)
    | [_] => exact Uni.no (fun K h => h)
    | [x, i] =>
      cases i <;> first | (exact Uni.no (fun K h => h)) | skip
      exact (((uni_getC _ _ _ _ id).and _).and _).and _
    | _ :: _ :: _ :: _ => exact Uni.no (fun K h => h)

section
variable {P : Program}
def fl (P : Program) (o : AOp) (env : AEnv) (A : Heap) (K : AV → Prop) : Prop := aop P o env A (fun v _ => K v) (fun _ _ => False)
theorem uni_aint (i : AV) {F : Int → (AV → Prop) → Prop} (h : ∀ n, Uni (F n)) : Uni fun K => aint i fun n => F n K := by
  cases i <;> first | (exact Uni.no (fun K h => h)) | exact h _
theorem fl_uni (o : AOp) (ho : o.floats = true) (env : AEnv) (A : Heap) : Uni (fl P o env A) := by
  cases o <;> simp only [AOp.floats, Bool.false_eq_true] at ho <;> unfold fl <;> simp only [aop]
  case mv => (first | exact Uni.leaf _ | exact (Uni.leaf _).and _ | exact ((Uni.leaf _).and _).and _ | exact (((Uni.leaf _).and _).and _).and _ | exact ((((Uni.leaf _).and _).and _).and _).and _)
  case pick => exact uni_apick ..
  case build => exact uni_abuild ..
  case load => exact uni_aload ..
  case bin => exact uni_abin ..
  case eq => exact uni_aeq ..
  case un => exact uni_aun ..
  case conv => exact uni_aconv ..
  case fadr => exact uni_afadr ..
  case field => exact uni_afield ..
  case idx => exact uni_aint _ (fun n => uni_aidxP ..)
  case idxA => exact uni_aint _ (fun n => uni_aidxA ..)
  case slc => exact Uni.and (uni_aslc ..) _
  case slcA => exact uni_aslcA ..
  case s2a => exact uni_as2a ..
  case ext => exact uni_aext ..
  case len => exact uni_alen ..
  case xx => exact uni_xop _ ho _ _
theorem fl_nonil {sz : Nat} {x i : AO} {env : AEnv} {A : Heap} {K : AV → Prop} (h : fl P (.idx sz x i) env A K) : ev env x ≠ .nilS := by
  intro e
  simp only [fl, aop, e] at h
  generalize ev env i = iv at h
  cases iv <;> first | exact h.elim | exact h true
end
end AVL

/- What an operation looks at; weaker ends. -/
namespace AVL
open Go
set_option linter.unusedSimpArgs false
set_option linter.unusedVariables false

def AO.uses : AO → List Nat
  | .t n => [n]
  | .v _ => []
def usesO : Option AO → List Nat
  | none => []
  | some x => x.uses
def AOp.uses : AOp → List Nat
  | .mv x | .un _ x | .conv _ x | .fadr _ _ _ x | .field _ _ _ x | .s2a _ x | .ext _ x | .len _ x | .load _ _ x | .box _ _ x => x.uses
  | .pick c a b => c.uses ++ (a.uses ++ b.uses)
  | .alloc _ _ => []
  | .build _ _ ps => ps.flatMap fun p => p.2.2.uses
  | .bslI _ _ xs | .bsl _ _ _ xs => xs.flatMap AO.uses
  | .store _ _ p x | .bin _ p x | .eq _ _ p x | .idx _ p x | .idxA _ _ _ p x | .mkI _ _ _ p x | .mk _ _ _ _ p x | .appI _ _ _ p x | .app _ _ _ p x => p.uses ++ x.uses
  | .slc _ x lo hi | .slcA _ x lo hi => x.uses ++ (usesO lo ++ usesO hi)
  | .call _ args => args.flatMap fun p => p.2.uses
  | .callV x args => x.uses ++ args.flatMap fun p => p.2.uses
  | .pnc x => x.uses
  | .xx _ xs => xs.flatMap AO.uses

theorem ev_congr {env env' : AEnv} {x : AO} (h : ∀ t ∈ x.uses, env t = env' t) : ev env x = ev env' x := by
  cases x with
  | t n => exact h n (by simp [AO.uses])
  | v a => rfl
theorem evo_congr {env env' : AEnv} {x : Option AO} (h : ∀ t ∈ usesO x, env t = env' t) : evo env x = evo env' x := by
  cases x with
  | none => rfl
  | some x => simp only [evo]; rw [ev_congr h]
theorem foldP_congr {env env' : AEnv} : ∀ (ps : List (Nat × Nat × AO)) (l : List AV), (∀ t ∈ ps.flatMap (fun p => p.2.2.uses), env t = env' t) → foldP env l ps = foldP env' l ps
  | [], l, h => rfl
  | (o, s, x) :: r, l, h => by
    have hx : ev env x = ev env' x := ev_congr fun t ht => h t (by simp [ht])
    simp only [foldP, hx]
    split
    · split
      · exact foldP_congr r _ fun t ht => h t (by simp only [List.flatMap_cons, List.mem_append]; exact .inr ht)
      · rfl
    · rfl
theorem fillAll_congr {env env' : AEnv} {sh : Sh} {sz : Nat} : ∀ (xs : List AO), (∀ t ∈ xs.flatMap AO.uses, env t = env' t) → fillAll env sh sz xs = fillAll env' sh sz xs
  | [], h => rfl
  | x :: r, h => by
    have hx : ev env x = ev env' x := ev_congr fun t ht => h t (by simp [ht])
    have hr := fillAll_congr (sh := sh) (sz := sz) r fun t ht => h t (by simp only [List.flatMap_cons, List.mem_append]; exact .inr ht)
    simp only [fillAll, hx, hr]
theorem nrms_congr {env env' : AEnv} : ∀ (xs : List (Sh × AO)), (∀ t ∈ xs.flatMap (fun p => p.2.uses), env t = env' t) → nrms env xs = nrms env' xs
  | [], h => rfl
  | (sh, x) :: r, h => by
    have hx : ev env x = ev env' x := ev_congr fun t ht => h t (by simp [ht])
    have hr := nrms_congr r fun t ht => h t (by simp only [List.flatMap_cons, List.mem_append]; exact .inr ht)
    simp only [nrms, hx, hr]
theorem aop_congr {P : Program} {o : AOp} {env env' : AEnv} {A : Heap} {K Kp : AV → Heap → Prop} (h : ∀ t ∈ o.uses, env t = env' t) : aop P o env A K Kp = aop P o env' A K Kp := by
  have l : ∀ {a b : List Nat}, (∀ t ∈ a ++ b, env t = env' t) → (∀ t ∈ a, env t = env' t) ∧ (∀ t ∈ b, env t = env' t) := fun h => ⟨fun t ht => h t (by simp [ht]), fun t ht => h t (by simp [ht])⟩
  cases o <;> simp only [AOp.uses] at h <;> simp only [aop]
  case mv => rw [ev_congr h]
  case pick => rw [ev_congr (l h).1, ev_congr (l (l h).2).1, ev_congr (l (l h).2).2]
  case box => rw [ev_congr h]
  case build => unfold abuild; rw [foldP_congr _ _ h]
  case bslI => unfold abslI; rw [fillAll_congr _ h]
  case bsl => unfold absl; rw [fillAll_congr _ h]
  case load => rw [ev_congr h]
  case un => rw [ev_congr h]
  case conv => rw [ev_congr h]
  case fadr => rw [ev_congr h]
  case field => rw [ev_congr h]
  case s2a => rw [ev_congr h]
  case ext => rw [ev_congr h]
  case len => rw [ev_congr h]
  case slc => rw [ev_congr (l h).1, evo_congr (l (l h).2).1, evo_congr (l (l h).2).2]
  case slcA => rw [ev_congr (l h).1, evo_congr (l (l h).2).1, evo_congr (l (l h).2).2]
  case call => rw [nrms_congr _ h]
  case callV => rw [ev_congr (l h).1, nrms_congr _ (l h).2]
  case pnc => rw [ev_congr h]
  case xx o xs =>
    have : xs.map (ev env) = xs.map (ev env') := List.map_congr_left fun y hy => ev_congr fun t ht => h t (List.mem_flatMap.2 ⟨y, hy, ht⟩)
    rw [this]
  all_goals rw [ev_congr (l h).1, ev_congr (l h).2]

/-! ### weaker ends, for the operations that do not float -/
theorem srcI_mono' {k : IntKind} {s : AV} {A : Heap} {Q Q' : List Int → Prop} (h : srcI k s A Q) (hq : ∀ l, Q l → Q' l) : srcI k s A Q' := by
  unfold srcI at h
  split at h
  · exact hq _ h
  · exact ⟨h.1, hq _ h.2⟩
  · exact ⟨h.1, hq _ h.2⟩
  · split at h
    · rename_i hA; simp only [srcI, hA]; exact ⟨h.1, h.2.1, hq _ h.2.2⟩
    · exact h.elim
  · split at h
    · rename_i hA
      split at h
      · rename_i hg; simp only [srcI, hA, hg]; exact ⟨h.1, h.2.1, hq _ h.2.2⟩
      · exact h.elim
    · exact h.elim
  · exact h.elim
theorem xop_mono {o : XOp} {xs : List AV} {A : Heap} {K K' : AV → Heap → Prop} (hf : o.floats = false) (hk : ∀ v A', K v A' → K' v A') (h : xop o xs A K) : xop o xs A K' := by
  cases o <;> simp only [XOp.floats, Bool.true_eq_false] at hf
  case strB e =>
    match xs with
    | [] => exact h
    | [x] =>
      simp only [xop] at h ⊢
      split at h
      · exact fun g hg => hk _ _ (h g hg)
      · exact h
    | _ :: _ :: _ => exact h
  case appZ e k bytes =>
    match xs with
    | [] => exact h
    | [_] => exact h
    | [d, s] =>
      simp only [xop] at h ⊢
      unfold aappZ at h ⊢
      split at h
      · refine ⟨h.1, h.2.1, ?_⟩
        have h := h.2.2
        split at h
        · exact fun g hg => hk _ _ (h g hg)
        · split at h
          · rename_i hA
            exact ⟨h.1, h.2.1, h.2.2.1, h.2.2.2.1, fun g hg => hk _ _ (h.2.2.2.2 g hg)⟩
          · exact h.elim
        · exact h.elim
      · exact h
    | _ :: _ :: _ :: _ => exact h
  case cpI k =>
    match xs with
    | [] => exact h
    | [_] => exact h
    | [d, s] =>
      simp only [xop] at h ⊢
      unfold acopy at h ⊢
      refine srcI_mono' h fun ys h => ?_
      split at h
      · split at h
        · split at h
          · refine ⟨h.1, h.2.1, ?_⟩
            have h := h.2.2
            split at h
            · exact hk _ _ h
            · exact h.elim
          · exact h.elim
        · exact h.elim
      · split at h
        · exact ⟨h.1, h.2.1, hk _ _ h.2.2⟩
        · exact h.elim
      · exact h.elim
    | _ :: _ :: _ :: _ => exact h
  case clr sz z =>
    match xs with
    | [] => exact h
    | [d] =>
      simp only [xop] at h ⊢
      unfold aclr at h ⊢
      split at h
      · exact hk _ _ h
      · split at h
        · exact ⟨h.1, h.2.1, hk _ _ h.2.2⟩
        · exact h.elim
      · exact h.elim
    | _ :: _ :: _ => exact h
  case mkM k =>
    match xs with
    | [] => exact fun g hg => hk _ _ (h g hg)
    | _ :: _ => exact h
  case upM k =>
    match xs with
    | [] => exact h
    | [_] => exact h
    | [_, _] => exact h
    | [m, x, v] =>
      simp only [xop] at h ⊢
      split at h
      · obtain ⟨h0, h⟩ := h
        split at h
        · exact ⟨h0, h.1, hk _ _ h.2⟩
        · exact h.elim
      · exact h
    | _ :: _ :: _ :: _ :: _ => exact h
  case lkM k z ok =>
    match xs with
    | [] => exact h
    | [_] => exact h
    | [m, x] =>
      simp only [xop] at h ⊢
      split at h
      · obtain ⟨h0, h⟩ := h
        split at h
        · exact ⟨h0, hk _ _ h⟩
        · split at h
          · exact ⟨h0, h.1, hk _ _ h.2⟩
          · exact h.elim
        · exact h.elim
      · exact h
    | _ :: _ :: _ :: _ => exact h
theorem aop_mono {P : Program} {o : AOp} {env : AEnv} {A : Heap} {K K' Kp Kp' : AV → Heap → Prop} (hf : o.floats = false) (hk : ∀ v A', K v A' → K' v A') (hp : ∀ v A', Kp v A' → Kp' v A')
    (h : aop P o env A K Kp) : aop P o env A K' Kp' := by
  cases o <;> simp only [AOp.floats, Bool.true_eq_false] at hf <;> simp only [aop] at h ⊢
  case xx o xs => exact xop_mono hf hk h
  case alloc => exact fun g hg => hk _ _ (h g hg)
  case box =>
    refine ⟨h.1, ?_⟩
    have h := h.2
    unfold abox at h
    split at h
    · exact h.elim
    · rename_i e; simp only [abox, e]; exact fun g hg => hk _ _ (h g hg)
  case bslI =>
    unfold abslI at h
    split at h
    · rename_i e
      split at h
      · rename_i e'; simp only [abslI, e, e']; exact fun g hg => hk _ _ (h g hg)
      · exact h.elim
    · exact h.elim
  case bsl =>
    unfold absl at h
    split at h
    · rename_i e; simp only [absl, e]; exact fun g hg => hk _ _ (h g hg)
    · exact h.elim
  case store =>
    refine ⟨h.1, ?_⟩
    have h := h.2
    unfold astore at h
    split at h
    · exact h.elim
    · rename_i e
      obtain ⟨h1, h2, h⟩ := h
      split at h
      · rename_i e1
        split at h
        · rename_i e2
          split at h
          · rename_i e3; simp only [astore, e, e1, e2, e3]; exact ⟨h1, h2, hk _ _ h⟩
          · exact h.elim
        · exact h.elim
      · rename_i e1
        split at h
        · rename_i e2
          split at h
          · rename_i e3
            obtain ⟨h3, h4, h⟩ := h
            split at h
            · rename_i e4; simp only [astore, e, e1, e2, e3, e4]; exact ⟨h1, h2, h3, h4, hk _ _ h⟩
            · exact h.elim
          · exact h.elim
        · exact h.elim
      · rename_i e1
        split at h
        · rename_i e2
          split at h
          · simp only [astore, e, e1, e2]; exact ⟨h1, h2, h.1, h.2.1, h.2.2.1, hk _ _ h.2.2.2⟩
          · exact h.elim
        · rename_i e2
          obtain ⟨hh, h⟩ := h
          split at h
          · rename_i e3; simp only [astore, e, e1, e2]; exact ⟨h1, h2, hh, by simp only [e3]; exact hk _ _ h⟩
          · exact h.elim
        · exact h.elim
      · exact h.elim
  case mkI =>
    unfold amkI at h
    split at h
    · rename_i e1 e2; simp only [amkI, e1, e2]; exact ⟨h.1, h.2.1, h.2.2.1, fun g hg => hk _ _ (h.2.2.2 g hg)⟩
    · exact h.elim
  case mk =>
    unfold amk at h
    split at h
    · rename_i e1 e2; simp only [amk, e1, e2]; exact ⟨h.1, h.2.1, h.2.2.1, fun g hg => hk _ _ (h.2.2.2 g hg)⟩
    · exact h.elim
  case appI =>
    refine srcI_mono' h ?_
    intro ys h
    split at h
    · rename_i e; (try simp only [e]); exact ⟨h.1, fun g hg => hk _ _ (h.2 g hg)⟩
    · rename_i e
      split at h
      · rename_i e2; (try simp only [e, e2]); exact ⟨h.1, h.2.1, h.2.2.1, h.2.2.2.1, fun g hg => hk _ _ (h.2.2.2.2 g hg)⟩
      · exact h.elim
    · rename_i e
      split at h
      · rename_i e2
        split at h
        · rename_i e3; (try simp only [e, e2, e3]); exact ⟨h.1, h.2.1, h.2.2.1, h.2.2.2.1, h.2.2.2.2.1, fun g hg => hk _ _ (h.2.2.2.2.2 g hg)⟩
        · exact h.elim
      · exact h.elim
    · exact h.elim
  case app =>
    refine srcG_mono h ?_
    intro ys hh
    obtain ⟨hs, h⟩ := hh
    refine ⟨hs, ?_⟩
    split at h
    · rename_i e; (try simp only [e]); exact ⟨h.1, fun g hg => hk _ _ (h.2 g hg)⟩
    · rename_i e
      split at h
      · rename_i e2; (try simp only [e, e2]); exact ⟨h.1, h.2.1, h.2.2.1, h.2.2.2.1, fun g hg => hk _ _ (h.2.2.2.2 g hg)⟩
      · exact h.elim
    · exact h.elim
  case callV =>
    split at h
    · rename_i e1 e2
      try simp only [e1, e2]
      refine ⟨h.1, h.2.mono ?_⟩
      intro out A' ho
      cases out with
      | ret v => exact hk _ _ ho
      | pan v => exact hp _ _ ho
    · rename_i e1 e2
      try simp only [e1, e2]
      refine ⟨h.1, h.2.mono ?_⟩
      intro out A' ho
      cases out with
      | ret v => exact hk _ _ ho
      | pan v => exact hp _ _ ho
    · exact h.elim
  case pnc =>
    split at h
    · rename_i e1
      try simp only [e1]
      exact hp _ _ h
    · exact h.elim
  case call =>
    split at h
    · rename_i e; (try simp only [e])
      refine h.mono ?_
      intro out A' ho
      cases out with
      | ret v => exact hk _ _ ho
      | pan v => exact hp _ _ ho
    · exact h.elim
end AVL

/- Operations with their slots and guards; regions whose order is open. -/
namespace AVL
open Go
set_option linter.unusedSimpArgs false
set_option linter.unusedVariables false

structure AOper where
  dst : Option Nat
  op : AOp
  g : Option (Nat × Bool)

def put (env : AEnv) (d : Option Nat) (v : AV) : AEnv := match d with
  | some d => upd env d v
  | none => env
/-! ### from the machine's code -/
def trGuard (ops : Array Oper) (g : Option (Nat × Bool)) : Option (Option (Nat × Bool)) :=
  match g with
  | none => some none
  | some (j, want) => match ops[j]? with
    | some o => match o.dst with
      | some d => some (some (d, want))
      | none => none
    | none => none
def inB (n : Nat) : Option Nat → Bool
  | some d => decide (d < n)
  | none => true
def inG (n : Nat) : Option (Nat × Bool) → Bool
  | some (s, _) => decide (s < n)
  | none => true
def trOper (P : Program) (n : Nat) (ops : Array Oper) (o : Oper) : Option AOper :=
  match trOp P o.op, trGuard ops o.guard with
  | some ao, some g => if inB n o.dst = true ∧ inG n g = true then some { dst := o.dst, op := ao, g } else none
  | _, _ => none
def trOpers (P : Program) (n : Nat) (ops : Array Oper) : List Oper → Option (List AOper)
  | [] => some []
  | o :: r => match trOper P n ops o, trOpers P n ops r with
    | some a, some l => some (a :: l)
    | _, _ => none
section
variable {P : Program}

theorem put_ok {E : Emb} {env : AEnv} {a : Act} {n : Nat} (he : EnvR E env a) (ha : a.tmps.size = n) {d : Option Nat} (hd : inB n d = true) {v : AV} {c : Value} (hv : TV E v c) :
    EnvR E (put env d v) (a.put d c) ∧ (a.put d c).tmps.size = n ∧ (a.put d c).defers = a.defers := by
  cases d with
  | none => exact ⟨he, ha, rfl⟩
  | some d =>
    simp only [inB, decide_eq_true_eq] at hd
    exact ⟨he.put hv (by omega), by simp [Act.put, ha], rfl⟩
theorem upd_same {E : Emb} {env : AEnv} {a : Act} (he : EnvR E env a) {s : Nat} {b : Bool} (hs : env s = .bool b) : EnvR E (upd env s (.bool b)) a := by
  intro n
  simp only [upd]
  split
  · rename_i e; subst e; rw [← hs]; exact he n
  · exact he n

theorem TVl_map {E : Emb} {env : AEnv} {a : Act} (he : EnvR E env a) : ∀ (xs : List Operand) (ts : List TypeId) (l : List (Sh × AO)) (vs : List AV), trArgs P xs ts = some l → nrms env l = some vs → TVl E vs (xs.map a.eval)
  | [], [], l, vs, h, hn => by simp only [trArgs] at h; injection h with h; subst h; simp only [nrms] at hn; injection hn with hn; subst hn; exact TVl_nil.2 rfl
  | [], _ :: _, l, vs, h, hn => by simp [trArgs] at h
  | _ :: _, [], l, vs, h, hn => by simp [trArgs] at h
  | x :: xs, t :: ts, l, vs, h, hn => by
    simp only [trArgs] at h
    split at h
    · rename_i ax sh sz r h1 h2 h3
      injection h with h; subst h
      simp only [nrms] at hn
      split at hn
      · rename_i v l' hv hl
        injection hn with hn; subst hn
        exact TVl_cons.2 ⟨_, _, rfl, nrm_ok (ev_ok he h1) hv, TVl_map he xs ts r l' h3 hl⟩
      · cases hn
    · cases h

/-- One operation, calls included. -/
theorem run_boundsP {α : Type} {w : World} (k : IntKind) (x y : Int) :
    ∃ s w', (boundsPanic k x y .index : Sem α).run P w = .halt (.panic (.iface P.rt.boundsError (.agg #[.int .i64 (IntKind.i64.wrap x), .int .i64 y, .bool s, .int .u8 0]))) w' ∧ (w' = w ∨ w' = { w with drawn := w.drawn + 1 }) := by
  unfold boundsPanic
  split
  · refine ⟨(Question.extern "runtime.boundsError.signed" 2).cut (w.tape w.drawn (Question.extern "runtime.boundsError.signed" 2)) == 1, { w with drawn := w.drawn + 1 }, ?_, .inr rfl⟩
    simp [runtimePanic, goPanic, BoundsCode.toNat, Question.forced]
  · refine ⟨k != .u64, w, ?_, .inl rfl⟩
    simp [runtimePanic, goPanic, BoundsCode.toNat]
theorem nil_idx {t e : TypeId} {w : World} (hu : P.underlying t = some (.slice e)) (k : IntKind) (n : Int) :
    ∃ s w', (Instr.indexAt t (.slice none 0 0) (.int k n)).run P w = .halt (.panic (.iface P.rt.boundsError (.agg #[.int .i64 (IntKind.i64.wrap n), .int .i64 0, .bool s, .int .u8 0]))) w' ∧ (w' = w ∨ w' = { w with drawn := w.drawn + 1 }) := by
  obtain ⟨s, w', h1, h2⟩ := run_boundsP (P := P) (α := Value) (w := w) k n 0
  refine ⟨s, w', ?_, h2⟩
  simp only [Instr.indexAt, asIntOf, Sem.run_bind, Sem.run_pure, Result.andThen_ok, run_underlying hu]
  exact h1
theorem TVl_append {E : Emb} : ∀ {l m : List AV} {cs ds : List Value}, TVl E l cs → TVl E m ds → TVl E (l ++ m) (cs ++ ds)
  | [], m, cs, ds, h, h' => by rw [TVl_nil] at h; subst h; simpa using h'
  | v :: r, m, cs, ds, h, h' => by
    obtain ⟨c, cr, rfl, h1, h2⟩ := TVl_cons.1 h
    exact TVl_cons.2 ⟨c, _, rfl, h1, TVl_append h2 h'⟩
/-! the machine's fence, in a round or not -/
def Fr (r : Option Nat) : Fence := { Fence.wide with round := r }
@[simp] theorem Fr_round {r : Option Nat} : (Fr r).round = r := rfl
theorem callsIn_Fr {r : Option Nat} {n : Nat} {P : Program} {f : FuncId} {args : Array Value} {w : World} {R : Ending → World → Prop} : CallsIn (Fr r) n P f args w R ↔ Calls P f args w R := by
  cases r with
  | none => exact callsIn_wide
  | some l => exact ⟨fun h => callsIn_wide.1 (show CallsIn Fence.wide n P f args w R from h), fun h => (show CallsIn Fence.wide n P f args w R from callsIn_wide.2 h)⟩
theorem stepsIn_Fr {r : Option Nat} {P : Program} {m m' : Machine} (h : Steps P m m') : StepsIn (Machine.fenced P (Fr r)) P m m' := by
  cases r with
  | none => exact stepsIn_wide.2 h
  | some l => exact (show StepsIn (Machine.fenced P Fence.wide) P m m' from stepsIn_wide.2 h)
theorem wpIn_of_wp {r : Option Nat} {n : Nat} {P : Program} {o : Oper} {a : Act} {w : World} {next : Act → World → Prop} {Q : Exit → Act → World → Prop} (hd : ∀ c, o.op ≠ .defer c) (h : o.wp P a w next Q) : o.wpIn (Fr r) n P a w next Q := by
  refine ⟨fun _ _ => trivial, ?_⟩
  rw [Fr_round, Oper.semAt_eq r a.eval o hd]
  unfold Oper.wp at h
  generalize (execOp a.eval o).run P w = q at h
  cases q with
  | ok x w' =>
    cases x <;> first
      | exact h
      | exact ⟨fun e => (by simp [Fr, Fence.wide] at e), callsIn_Fr.2 h⟩
      | exact ⟨fun e => (by simp [Fr, Fence.wide] at e), fun c cs _ => let ⟨v, w', hr, s⟩ := h c cs; ⟨v, w', hr, stepsIn_Fr s⟩⟩
      | exact h.elim
  | halt x w' => cases x <;> first | exact h | exact h.elim
theorem trOp_nodefer {P : Program} {o : Op} {ao : AOp} (h : trOp P o = some ao) : ∀ c, o ≠ .defer c := by
  rintro c rfl
  simp [trOp, trOp0, trX] at h
theorem oper_ok0 {o : Oper} {ao : AOp} (ho : trOp P o.op = some ao) {E : Emb} {A : Heap} {w : World} {K Kp : AV → Heap → Prop} {a : Act} {env : AEnv} (hR : Rep E A w) (he : EnvR E env a) (h : aop P ao env A K Kp)
    {next : Act → World → Prop} {Q : Exit → Act → World → Prop}
    (hn : ∀ v A' E' w' c, K v A' → Rep E' A' w' → E.Le E' → Same w w' → TV E' v c → next (a.put o.dst c) w')
    (hp : ∀ v A' E' w' c, Kp v A' → Rep E' A' w' → E.Le E' → Same w w' → TV E' v c → Q (.panic [{ v := c, recovered := false }]) a w') (hy : ¬ ∃ x l g, ao = .callV x l ∧ ev env x = .func (.yield g) [] []) : o.wp P a w next Q := by
  by_cases hc : ∃ f l, ao = .call f l
  · obtain ⟨f, l, rfl⟩ := hc
    have ho : trOp0 P o.op = some (.call f l) := by
      rcases trOp_cases ho with ho | ⟨_, _, _, _, _, e⟩
      · exact ho
      · cases e
    unfold Oper.wp
    cases hop : o.op <;> rw [hop] at ho <;> simp only [trOp0] at ho <;> try (cases ho; done)
    case call c =>
      obtain ⟨callee, args, argTypes⟩ := c
      simp only at ho
      split at ho
      · rename_i f' hcal
        split at ho
        · rename_i hcl
          obtain ⟨l', hl, e⟩ := opt_map ho
          injection e with e1 e2; subst e1; subst e2
          simp only [aop] at h
          split at h
          · rename_i vs hvs
            unfold callable at hcl
            split at hcl
            · rename_i fn hf
              simp only [Bool.and_eq_true] at hcl
              have hbody : ¬ fn.body = none := by
                intro e; rw [e] at hcl; simp at hcl
              have hname : ¬ fn.name = "runtime.NumGoroutine" := by simpa using hcl.2
              have hrun : (execOp a.eval o).run P w = .ok (.enter f (args.map a.eval)) w := by
                simp [execOp, hop, resolve, Deferred.ofValue, Act.eval, invoke, callFunc, hf, hname, hbody]
              rw [hrun]
              simp only [Oper.upon]
              have hT := TVl_map (E := E) he args.toList argTypes.toList l vs hl hvs
              refine (h E w (args.map a.eval) hR (by simpa using hT)).mono ?_
              rintro e w' ⟨out, A', E', hk, hR', hE, hS, hO⟩
              cases out with
              | ret v =>
                obtain ⟨c, rfl, hcv⟩ := hO
                exact hn v A' E' w' c hk hR' hE hS hcv
              | pan v =>
                obtain ⟨c, rfl, hcv⟩ := hO
                exact hp v A' E' w' c hk hR' hE hS hcv
            · cases hcl
          · exact h.elim
        · cases ho
      · obtain ⟨_, _, e⟩ := opt_map ho; cases e
      · rename_i b
        unfold trBuiltin at ho
        repeat' (first | (cases ho; done) | (injection ho with ho; cases ho; done) | split at ho)
      · cases ho
    case slice t x lo hi mx =>
      cases mx <;> simp only [trOp0] at ho <;> (repeat' (first | (cases ho; done) | (injection ho with ho; cases ho; done) | split at ho))
    all_goals (repeat' (first | (cases ho; done) | (injection ho with ho; cases ho; done) | (obtain ⟨_, _, e⟩ := opt_map ho; cases e; done) | split at ho))
  by_cases hc2 : ∃ x l, ao = .callV x l
  · obtain ⟨x, l, rfl⟩ := hc2
    have ho : trOp0 P o.op = some (.callV x l) := by
      rcases trOp_cases ho with ho | ⟨_, _, _, _, _, e⟩
      · exact ho
      · cases e
    unfold Oper.wp
    cases hop : o.op <;> rw [hop] at ho <;> simp only [trOp0] at ho <;> try (cases ho; done)
    case call c =>
      obtain ⟨callee, args, argTypes⟩ := c
      simp only at ho
      split at ho
      · split at ho
        · obtain ⟨_, _, e⟩ := opt_map ho; cases e
        · cases ho
      · rename_i _ t
        obtain ⟨l', hl, e⟩ := opt_map ho
        injection e with e1 e2; subst e1; subst e2
        simp only [aop] at h
        split at h
        · rename_i f first cap vs hx hvs
          obtain ⟨hcl, h⟩ := h
          unfold callable at hcl
          split at hcl
          · rename_i fn hf
            simp only [Bool.and_eq_true] at hcl
            have hbody : ¬ fn.body = none := by
              intro e; rw [e] at hcl; simp at hcl
            have hname : ¬ fn.name = "runtime.NumGoroutine" := by simpa using hcl.2
            have hT := TVl_map (E := E) he args.toList argTypes.toList l vs hl hvs
            have hxt : TV E (.func (.func f) first cap) (a.eval (.tmp t)) := by
              rw [← hx]; exact he t
            rcases hxt with ⟨hn, _⟩ | ⟨_, hxt⟩
            · cases hn
            · simp only [VR] at hxt
              obtain ⟨xs, ys, ⟨_, hk, hv⟩, h1, h2⟩ := hxt
              injection hv with hv
              simp only [Emb.fn] at hk; injection hk with hk; subst hk
              have hrun : (execOp a.eval o).run P w = .ok (.enter f (xs ++ args.map a.eval ++ ys)) w := by
                simp [execOp, hop, resolve, hv, Deferred.ofValue, invoke, callFunc, hf, hname, hbody]
              rw [hrun]
              simp only [Oper.upon]
              refine (h E w (xs ++ args.map a.eval ++ ys) hR ?_).mono ?_
              · have := TVl_append (TVl_append h1 (by simpa using hT : TVl E vs (args.map a.eval).toList)) h2
                simpa using this
              · rintro e w' ⟨out, A', E', hk, hR', hE, hS, hO⟩
                cases out with
                | ret v =>
                  obtain ⟨c, rfl, hcv⟩ := hO
                  exact hn v A' E' w' c hk hR' hE hS hcv
                | pan v =>
                  obtain ⟨c, rfl, hcv⟩ := hO
                  exact hp v A' E' w' c hk hR' hE hS hcv
          · cases hcl
        · rename_i e _; exact absurd ⟨_, _, _, rfl, e⟩ hy
        · exact h.elim
      · rename_i b
        unfold trBuiltin at ho
        repeat' (first | (cases ho; done) | (injection ho with ho; cases ho; done) | split at ho)
      · cases ho
    case slice t x lo hi mx =>
      cases mx <;> simp only [trOp0] at ho <;> (repeat' (first | (cases ho; done) | (injection ho with ho; cases ho; done) | split at ho))
    all_goals (repeat' (first | (cases ho; done) | (injection ho with ho; cases ho; done) | (obtain ⟨_, _, e⟩ := opt_map ho; cases e; done) | split at ho))
  by_cases hc3 : ∃ x, ao = .pnc x
  · obtain ⟨x, rfl⟩ := hc3
    have ho : trOp0 P o.op = some (.pnc x) := by
      rcases trOp_cases ho with ho | ⟨_, _, _, _, _, e⟩
      · exact ho
      · cases e
    unfold Oper.wp
    cases hop : o.op <;> rw [hop] at ho <;> simp only [trOp0] at ho <;> try (cases ho; done)
    case panic y =>
      obtain ⟨y', hy, e⟩ := opt_map ho
      injection e with e; subst e
      simp only [aop] at h
      split at h
      · rename_i t v hx
        have hy' := ev_ok he hy
        rw [hx] at hy'
        have hyc := hy'
        rcases hy' with ⟨hn, _⟩ | ⟨_, hy'⟩
        · cases hn
        · simp only [VR] at hy'
          obtain ⟨c, hv, _⟩ := hy'
          injection hv with hv
          have hrun : (execOp a.eval o).run P w = .halt (.panic (.iface t c)) w := by
            simp only [execOp, hop, hv, Instr.panic]; rfl
          rw [hrun]
          simp only [Oper.upon]
          rw [hv] at hyc
          exact hp _ A E w _ h hR (Emb.Le.refl E) (Same.refl w) hyc
      · exact h.elim
    case call c =>
      obtain ⟨callee, args, argTypes⟩ := c
      simp only at ho
      split at ho
      · split at ho
        · obtain ⟨_, _, e⟩ := opt_map ho; cases e
        · cases ho
      · obtain ⟨_, _, e⟩ := opt_map ho; cases e
      · rename_i b
        unfold trBuiltin at ho
        repeat' (first | (cases ho; done) | (injection ho with ho; cases ho; done) | split at ho)
      · cases ho
    case slice t x lo hi mx =>
      cases mx <;> simp only [trOp0] at ho <;> (repeat' (first | (cases ho; done) | (injection ho with ho; cases ho; done) | split at ho))
    all_goals (repeat' (first | (cases ho; done) | (injection ho with ho; cases ho; done) | (obtain ⟨_, _, e⟩ := opt_map ho; cases e; done) | split at ho))
  have hnc : ao.acts = false := by
    cases ao <;> first
      | rfl
      | exact absurd ⟨_, _, rfl⟩ hc
      | exact absurd ⟨_, _, rfl⟩ hc2
      | exact absurd ⟨_, rfl⟩ hc3
  by_cases hc4 : ∃ sz x i, ao = .idx sz x i ∧ ev env x = .nilS
  · obtain ⟨sz, x, i, rfl, hx⟩ := hc4
    have ho : trOp0 P o.op = some (.idx sz x i) := by
      rcases trOp_cases ho with ho | ⟨_, _, _, _, _, e⟩
      · exact ho
      · cases e
    unfold Oper.wp
    cases hop : o.op <;> rw [hop] at ho <;> simp only [trOp0] at ho <;> try (cases ho; done)
    case indexAddr t x' i' =>
      split at ho
      · rename_i ax ai h1 h2
        split at ho
        · rename_i e hu
          split at ho
          · rename_i j hj
            injection ho with ho; injection ho with e1 e2 e3; subst e1; subst e2; subst e3
            have hxv := ev_ok he h1
            rw [hx] at hxv
            simp only [TV_nilS] at hxv
            simp only [aop, hx] at h
            have hiv := ev_ok he h2
            generalize ev env ai = iv at h hiv
            cases iv <;> simp only [aint] at h <;> try (exact h.elim)
            rename_i k n
            simp only [TV_int] at hiv
            obtain ⟨s, w', hrun, hw'⟩ := nil_idx (w := w) hu k n
            have hrun' : (execOp a.eval o).run P w = .halt (.panic (.iface P.rt.boundsError (.agg #[.int .i64 (IntKind.i64.wrap n), .int .i64 0, .bool s, .int .u8 0]))) w' := by
              simp only [execOp, hop, hxv, hiv, Sem.run_bind, hrun]; rfl
            rw [hrun']
            simp only [Oper.upon]
            have hT : TV E (.iface P.rt.boundsError (.agg [.int .i64 (IntKind.i64.wrap n), .int .i64 0, .bool s, .int .u8 0])) (.iface P.rt.boundsError (.agg #[.int .i64 (IntKind.i64.wrap n), .int .i64 0, .bool s, .int .u8 0])) := by
              refine .inr ⟨rfl, ?_⟩
              simp only [VR]
              refine ⟨_, rfl, .inl ⟨rfl, [.int .i64 (IntKind.i64.wrap n), .int .i64 0, .bool s, .int .u8 0], ?_, rfl⟩⟩
              simp [VR, VRs]
            rcases hw' with rfl | rfl
            · exact hp _ A E _ _ (h s) hR (Emb.Le.refl E) (Same.refl _) hT
            · refine hp _ A E _ _ (h s) ⟨hR.frm, hR.lt, fun g c hg => (by have := hR.cont g c hg; cases c <;> exact this), hR.sep, hR.low, hR.lon, hR.hid⟩ (Emb.Le.refl E) ⟨rfl, rfl, Nat.le_refl _⟩ hT
          · cases ho
        · split at ho
          · injection ho with ho; cases ho
          · cases ho
      · cases ho
    case call c =>
      obtain ⟨callee, args, argTypes⟩ := c
      simp only at ho
      split at ho
      · split at ho
        · obtain ⟨_, _, e⟩ := opt_map ho; cases e
        · cases ho
      · obtain ⟨_, _, e⟩ := opt_map ho; cases e
      · rename_i b
        unfold trBuiltin at ho
        repeat' (first | (cases ho; done) | (injection ho with ho; cases ho; done) | split at ho)
      · cases ho
    case slice t x lo hi mx =>
      cases mx <;> simp only [trOp0] at ho <;> (repeat' (first | (cases ho; done) | (injection ho with ho; cases ho; done) | split at ho))
    all_goals (repeat' (first | (cases ho; done) | (injection ho with ho; cases ho; done) | (obtain ⟨_, _, e⟩ := opt_map ho; cases e; done) | split at ho))
  exact (op_ok ho hnc (fun sz x i e hx => hc4 ⟨sz, x, i, e, hx⟩) hR he h).upon hn

theorem oper_ok {r : Option Nat} {o : Oper} {ao : AOp} (ho : trOp P o.op = some ao) {E : Emb} {A : Heap} {w : World} {K Kp : AV → Heap → Prop} {a : Act} {env : AEnv} (hR : Rep E A w) (he : EnvR E env a) (h : aop P ao env A K Kp)
    {next : Act → World → Prop} {Q : Exit → Act → World → Prop}
    (hn : ∀ v A' E' w' c, K v A' → Rep E' A' w' → E.Le E' → Same w w' → TV E' v c → next (a.put o.dst c) w')
    (hp : ∀ v A' E' w' c, Kp v A' → Rep E' A' w' → E.Le E' → Same w w' → TV E' v c → Q (.panic [{ v := c, recovered := false }]) a w') : o.wpIn (Fr r) 0 P a w next Q := by
  by_cases hy : ∃ x l g, ao = .callV x l ∧ ev env x = .func (.yield g) [] []
  · obtain ⟨x, l, g, rfl, hx⟩ := hy
    have hnd := trOp_nodefer ho
    have ho : trOp0 P o.op = some (.callV x l) := by
      rcases trOp_cases ho with ho | ⟨_, _, _, _, _, e⟩
      · exact ho
      · cases e
    refine ⟨fun _ _ => trivial, ?_⟩
    rw [Fr_round, Oper.semAt_eq r a.eval o hnd]
    cases hop : o.op <;> rw [hop] at ho <;> simp only [trOp0] at ho <;> try (cases ho; done)
    case call c =>
      obtain ⟨callee, args, argTypes⟩ := c
      simp only at ho
      split at ho
      · split at ho
        · obtain ⟨_, _, e⟩ := opt_map ho; cases e
        · cases ho
      · rename_i _ t
        obtain ⟨l', hl, e⟩ := opt_map ho
        injection e with e1 e2; subst e1; subst e2
        simp only [aop, hx] at h
        split at h
        · rename_i e _; cases e
        · rename_i g' vs hg' hvs
          injection hg' with hg'; injection hg' with hg'; subst hg'
          obtain ⟨⟨en, ps, asg, body, hA⟩, h⟩ := h
          have hT := TVl_map (E := E) he args.toList argTypes.toList l vs hl hvs
          have hxt : TV E (.func (.yield g) [] []) (a.eval (.tmp t)) := by
            rw [← hx]; exact he t
          obtain ⟨b, rc, haddr, hF, hb, hen, hps, hasg, hbody, hst, hpe⟩ := hR.cont g _ hA
          obtain ⟨xs, ys, ⟨k, hk, hv⟩, h1, h2⟩ := TV_func.1 hxt
          rw [TVl_nil] at h1 h2
          have hxs : xs = #[] := by cases xs; simp_all
          have hys : ys = #[] := by cases ys; simp_all
          subst hxs; subst hys
          have hkk : k = .yield b := by
            simp only [Emb.fn, haddr, if_pos (hR.lt g _ hA)] at hk
            injection hk with hk; exact hk.symm
          subst hkk
          obtain ⟨hsz, hround⟩ := h E w (args.map a.eval) b rc hR (by simpa using hT) haddr hb
          have hrun : (execOp a.eval o).run P w = .ok (.round b rc.fn ((rc.params.zip (args.map a.eval)).foldl (fun tmps (t, a) => tmps.setIfInBounds t a) rc.tmps) rc.assign rc.body) w := by
            have := run_yield (P := P) hb hsz
            simp [execOp, hop, resolve, hv, Deferred.ofValue, invoke, this]
          rw [hrun]
          refine ⟨fun e => (by simp [Fr, Fence.wide] at e), ?_⟩
          have hround' := hround.mono (R' := fun
            | .returned v, w'' => next (a.put o.dst v) w''
            | .panicked chain, w'' => Q (.panic chain) a w''
            | .outgrown, _ => LetsOut Q) (by
              rintro e w' ⟨out, A', E', hk, hR', hE, hS, hO⟩
              cases out with
              | ret v =>
                obtain ⟨c, rfl, hcv⟩ := hO
                exact hn v A' E' w' c hk hR' hE hS hcv
              | pan v =>
                obtain ⟨c, rfl, hcv⟩ := hO
                exact hp v A' E' w' c hk hR' hE hS hcv)
          cases r with
          | none => exact hround'
          | some q => exact hround'
        · exact h.elim
      · rename_i b
        unfold trBuiltin at ho
        repeat' (first | (cases ho; done) | (injection ho with ho; cases ho; done) | split at ho)
      · cases ho
    case slice t x lo hi mx =>
      cases mx <;> simp only [trOp0] at ho <;> (repeat' (first | (cases ho; done) | (injection ho with ho; cases ho; done) | split at ho))
    all_goals (repeat' (first | (cases ho; done) | (injection ho with ho; cases ho; done) | (obtain ⟨_, _, e⟩ := opt_map ho; cases e; done) | split at ho))
  exact wpIn_of_wp (trOp_nodefer ho) (oper_ok0 ho hR he h hn hp hy)

end

/-! ### regions whose order is open -/
/-- What an operation makes that only makes memory: its value, from the name; the contents. -/
def mkL (o : AOp) (env : AEnv) : Option ((Nat → AV) × Cont) :=
  match o with
  | .alloc t z => some (fun g => .ptr g 0, .var t z)
  | .box t sh x => if good (ev env x) = true then (shp sh (comps (ev env x))).map fun v => (fun g => .ptr g 0, .var t (comps v)) else none
  | .bslI e k xs => match fillAll env .sc 1 xs with
    | some l => (intsOf k l).map fun ys => (fun g => .own g 0 xs.length, .irow e k ys)
    | none => none
  | .bsl e sh sz xs => (fillAll env sh sz xs).map fun l => (fun g => .own g 0 xs.length, .row e sz l)
  | .xx (.mkM k) [] => some (fun g => .map g, .mp k [])
  | _ => none
def AOp.late : AOp → Bool
  | .alloc .. | .box .. | .bslI .. | .bsl .. => true
  | .xx (.mkM _) [] => true
  | _ => false
/-- An empty row. -/
def AOp.empty : AOp → Bool
  | .bslI _ _ [] | .bsl _ _ _ [] => true
  | _ => false
structure DOp where
  o : AOper
  fl : Bool
  st : Bool
  ks : Option (List Nat)
  ls : List Nat
/-- The slots whose names an operation looks up. -/
def AOp.rds : AOp → Option (List Nat)
  | .load _ _ (.t n) => some [n]
  | .idx _ (.t n) _ => some [n]
  | .slc _ (.t n) _ _ => some [n]
  | .xx .bstr [.t n] => some [n]
  | .xx .sealB [.t n] => some [n]
  | _ => none
def keep1 (v : AV) (A A' : Heap) : Prop := match v with
  | .ptr g _ | .pix g _ _ _ | .pel g _ _ | .own g _ _ | .asl g _ _ _ _ | .map g => A' g = A g
  | _ => True
def keepL : List Nat → AEnv → Heap → Heap → Prop
  | [], _, _, _ => True
  | t :: l, env, A, A' => keep1 (env t) A A' ∧ keepL l env A A'
/-- What was there is there still, so far as it is looked at. -/
def keepC (ks : Option (List Nat)) (env : AEnv) (A A' : Heap) : Prop := A.Sub A' ∨ match ks with
  | none => False
  | some l => keepL l env A A'
def hasD (l : List Nat) : Option Nat → Bool
  | some t => l.contains t
  | none => false
/-- The makers to come that may have run already: that they can. -/
def lsOK (ls : List Nat) : List DOp → AEnv → Prop
  | [], _ => True
  | p :: r, env => (hasD ls p.o.dst = true → p.o.op.late = true → (mkL p.o.op env).isSome = true) ∧ lsOK ls r env

def AOper.uses (o : AOper) : List Nat := o.op.uses ++ (match o.g with
  | some (s, _) => [s]
  | none => [])
def gF (P : Program) (o : AOper) (env : AEnv) (A : Heap) (K : AV → Prop) : Prop :=
  match o.g with
  | none => fl P o.op env A K
  | some (s, want) => match env s with
    | .bool b => (b = want → fl P o.op env A K) ∧ (b = !want → K .undef)
    | .undef => K .undef
    | _ => False
def gC (P : Program) (o : AOper) (env : AEnv) (A : Heap) (K Kp : AV → Heap → Prop) : Prop :=
  match o.g with
  | none => aop P o.op env A K Kp
  | some (s, want) => match env s with
    | .bool b => (b = want → aop P o.op env A K Kp) ∧ (b = !want → K .undef A)
    | .undef => K .undef A
    | _ => False
def awD (P : Program) : List DOp → (AEnv → Heap → Prop) → (AV → Heap → Prop) → AEnv → Heap → Prop
  | [], K, _, env, A => K env A
  | d :: r, K, Kp, env, A => match d.fl with
    | true => gF P d.o env A (fun v => awD P r K Kp (put env d.o.dst v) A)
    | false => lsOK d.ls r env ∧ gC P d.o env A (fun v A' => (d.st = true → keepC d.ks env A A') ∧ awD P r K Kp (put env d.o.dst v) A') Kp

def indep (d e : AOper) : Bool :=
  (match d.dst with
   | some t => !(e.uses.contains t) && (e.dst != some t)
   | none => true) &&
  (match e.dst with
   | some t => !(d.uses.contains t)
   | none => true)

section
variable {P : Program}
theorem put_ne {env : AEnv} {d : Option Nat} {v : AV} {t : Nat} (h : d ≠ some t) : put env d v t = env t := by
  cases d with
  | none => rfl
  | some x => simp only [put, upd]; rw [if_neg]; exact fun e => h (by rw [e])
theorem put_comm {env : AEnv} {d e : Option Nat} {v u : AV} (h : ∀ t, d = some t → e ≠ some t) : put (put env d v) e u = put (put env e u) d v := by
  cases d with
  | none => rfl
  | some x =>
    cases e with
    | none => rfl
    | some y =>
      have hne : y ≠ x := fun e => h x rfl (by rw [e])
      funext t
      simp only [put, upd]
      by_cases h1 : t = y
      · subst h1; simp [hne]
      · simp [h1]
theorem indep_spec {d e : AOper} (h : indep d e = true) : (∀ t, d.dst = some t → t ∉ e.uses) ∧ (∀ t, d.dst = some t → e.dst ≠ some t) ∧ (∀ t, e.dst = some t → t ∉ d.uses) := by
  unfold indep at h
  simp only [Bool.and_eq_true] at h
  obtain ⟨h1, h2⟩ := h
  refine ⟨fun t ht => ?_, fun t ht => ?_, fun t ht => ?_⟩
  · rw [ht] at h1; simp at h1; exact h1.1
  · rw [ht] at h1; simp at h1; exact h1.2
  · rw [ht] at h2; simp at h2; exact h2

theorem gF_congr {o : AOper} {env env' : AEnv} {A : Heap} {K : AV → Prop} (h : ∀ t ∈ o.uses, env t = env' t) : gF P o env A K = gF P o env' A K := by
  have h1 : fl P o.op env A K = fl P o.op env' A K := aop_congr fun t ht => h t (by simp [AOper.uses, ht])
  unfold gF
  cases hg : o.g with
  | none => exact h1
  | some sw =>
    obtain ⟨s, want⟩ := sw
    have : env s = env' s := h s (by simp [AOper.uses, hg])
    simp only [this, h1]
theorem gC_congr {o : AOper} {env env' : AEnv} {A : Heap} {K Kp : AV → Heap → Prop} (h : ∀ t ∈ o.uses, env t = env' t) : gC P o env A K Kp = gC P o env' A K Kp := by
  have h1 : aop P o.op env A K Kp = aop P o.op env' A K Kp := aop_congr fun t ht => h t (by simp [AOper.uses, ht])
  unfold gC
  cases hg : o.g with
  | none => exact h1
  | some sw =>
    obtain ⟨s, want⟩ := sw
    have : env s = env' s := h s (by simp [AOper.uses, hg])
    simp only [this, h1]
theorem gF_uni {o : AOper} (ho : o.op.floats = true) (env : AEnv) (A : Heap) : Uni (gF P o env A) := by
  unfold gF
  cases o.g with
  | none => exact fl_uni o.op ho env A
  | some sw =>
    obtain ⟨s, want⟩ := sw
    simp only
    cases env s <;> first | exact Uni.no (fun K h => h) | skip
    · exact Uni.leaf _
    rename_i b
    have hu := fl_uni (P := P) o.op ho env A
    refine ⟨fun K₁ K₂ h₁ h₂ => ?_⟩
    by_cases hb : b = want
    · obtain ⟨v, a, c, g⟩ := hu.out K₁ K₂ (h₁.1 hb) (h₂.1 hb)
      exact ⟨v, a, c, fun K hk => ⟨fun _ => g K hk, fun hn => by subst hb; simp at hn⟩⟩
    · have hn : b = !want := by cases b <;> cases want <;> simp_all
      exact ⟨.undef, h₁.2 hn, h₂.2 hn, fun K hk => ⟨fun h => absurd h hb, fun _ => hk⟩⟩
theorem gC_mono {o : AOper} (ho : o.op.floats = false) {env : AEnv} {A : Heap} {K K' Kp : AV → Heap → Prop} (hk : ∀ v A', K v A' → K' v A') (h : gC P o env A K Kp) : gC P o env A K' Kp := by
  unfold gC at h ⊢
  cases hg : o.g with
  | none => rw [hg] at h; exact aop_mono ho hk (fun _ _ h => h) h
  | some sw =>
    obtain ⟨s, want⟩ := sw
    rw [hg] at h
    simp only at h ⊢
    cases hs : env s <;> rw [hs] at h <;> first | exact h.elim | skip
    · exact hk _ _ h
    exact ⟨fun e => aop_mono ho hk (fun _ _ h => h) (h.1 e), fun e => hk _ _ (h.2 e)⟩


theorem aload_sub {sh : Sh} {sz : Nat} {p : AV} {A A' : Heap} {K : AV → Prop} (hs : A.Sub A') (h : aload sh sz p A fun v _ => K v) : aload sh sz p A' fun v _ => K v := by
  have key : ∀ g, (∃ c, A g = some c) → A' g = A g := fun g ⟨c, hc⟩ => by rw [hc, hs g c hc]
  cases p <;> try exact h
  case ptr g o => rw [aload, key g (by cases hA : A g with | none => simp only [aload, hA] at h | some c => exact ⟨c, rfl⟩)]; exact h
  case pix g o m i => rw [aload, key g (by cases hA : A g with | none => simp only [aload, hA] at h | some c => exact ⟨c, rfl⟩)]; exact h
  case pel g i o => rw [aload, key g (by cases hA : A g with | none => simp only [aload, hA] at h | some c => exact ⟨c, rfl⟩)]; exact h
theorem srcI_sub {k : IntKind} {s : AV} {A A' : Heap} {Q : List Int → Prop} (hs : A.Sub A') (h : srcI k s A Q) : srcI k s A' Q := by
  cases s <;> try exact h
  case own g i n =>
    simp only [srcI] at h ⊢
    cases hA : A g with
    | none => rw [hA] at h; exact h.elim
    | some c => rw [hs g c hA]; rw [hA] at h; exact h
  case asl g o m i n =>
    simp only [srcI] at h ⊢
    cases hA : A g with
    | none => rw [hA] at h; exact h.elim
    | some c => rw [hs g c hA]; rw [hA] at h; exact h
theorem xop_sub {o : XOp} (ho : o.floats = true) {xs : List AV} {A A' : Heap} {K : AV → Prop} (hs : A.Sub A' ∨ o.reads = false) (h : xop o xs A fun v _ => K v) : xop o xs A' fun v _ => K v := by
  cases o <;> simp only [XOp.floats, Bool.false_eq_true] at ho
  case p po => exact h
  case sealB =>
    match xs with
    | [] => exact h
    | [x] =>
      cases x <;> try exact h
      rename_i g i n
      simp only [xop] at h ⊢
      refine ⟨h.1, ?_⟩
      have h := h.2
      rcases hs with hs | hs
      · cases hA : A g with
        | none => rw [hA] at h; exact h.elim
        | some c => rw [hs g c hA]; rw [hA] at h; exact h
      · cases hs
    | _ :: _ :: _ => exact h
  case bstr =>
    match xs with
    | [] => exact h
    | [x] => exact ⟨h.1, srcI_sub (hs.elim id (fun e => by cases e)) h.2⟩
    | _ :: _ :: _ => exact h
  case idxV =>
    match xs with
    | [] => exact h
    | [_] => exact h
    | [x, i] => cases i <;> exact h
    | _ :: _ :: _ :: _ => exact h
theorem fl_sub {o : AOp} (ho : o.floats = true) {env : AEnv} {A A' : Heap} {K : AV → Prop} (hs : A.Sub A') (h : fl P o env A K) : fl P o env A' K := by
  cases o <;> simp only [AOp.floats, Bool.false_eq_true] at ho <;> try exact h
  case load sh sz p => exact aload_sub hs h
  case xx => exact xop_sub ho (.inl hs) h
  case idx sz x i =>
    simp only [fl, aop] at h ⊢
    generalize ev env i = iv at h ⊢
    cases iv <;> try exact h
    simp only [aint] at h ⊢
    generalize ev env x = xv at h ⊢
    cases xv <;> try exact h
    rename_i g i0 n
    simp only [aidxP, aidx] at h ⊢
    obtain ⟨h1, h2⟩ := h
    refine ⟨?_, h2⟩
    cases hA : A g with
    | none => rw [hA] at h1; exact h1.elim
    | some c => rw [hs g c hA]; rw [hA] at h1; exact h1
  case slc sz x lo hi =>
    simp only [fl, aop] at h ⊢
    obtain ⟨h1, h2⟩ := h
    generalize ev env x = xv at h1 h2 ⊢
    refine ⟨?_, ?_⟩
    · cases xv <;> try exact h1
      rename_i g i0 n
      simp only [szOK] at h1 ⊢
      cases hA : A g with
      | none => rw [hA] at h1; exact h1.elim
      | some c => rw [hs g c hA]; rw [hA] at h1; exact h1
    · cases xv <;> exact h2
theorem fl_noread {o : AOp} (ho : o.floats = true) (hr : o.reads = false) {env : AEnv} {A A' : Heap} {K : AV → Prop} (h : fl P o env A K) : fl P o env A' K := by
  cases o <;> simp only [AOp.floats, Bool.false_eq_true] at ho <;> simp only [AOp.reads, Bool.true_eq_false] at hr
  case xx => exact xop_sub ho (.inr hr) h
  case field => simp only [fl, aop] at h ⊢; generalize ev env _ = xv at h ⊢; cases xv <;> exact h
  case fadr => simp only [fl, aop] at h ⊢; generalize ev env _ = xv at h ⊢; cases xv <;> exact h
  case idxA m sz ints x i =>
    simp only [fl, aop] at h ⊢
    generalize ev env i = iv at h ⊢
    cases iv <;> exact h
  case slcA => simp only [fl, aop] at h ⊢; generalize ev env _ = xv at h ⊢; cases xv <;> exact h
  case s2a => simp only [fl, aop] at h ⊢; generalize ev env _ = xv at h ⊢; cases xv <;> exact h
  all_goals exact h
theorem gF_to {o : AOper} (ho : o.op.floats = true) {env : AEnv} {A A' : Heap} {K : AV → Prop} (hs : A.Sub A' ∨ o.op.reads = false) (h : gF P o env A K) : gF P o env A' K := by
  have key : fl P o.op env A K → fl P o.op env A' K := fun h => hs.elim (fun s => fl_sub ho s h) (fun r => fl_noread ho r h)
  unfold gF at h ⊢
  cases hg : o.g with
  | none => rw [hg] at h; exact key h
  | some sw =>
    obtain ⟨s, want⟩ := sw
    rw [hg] at h
    simp only at h ⊢
    cases hs : env s <;> rw [hs] at h <;> first | exact h.elim | skip
    · exact h
    exact ⟨fun e => key (h.1 e), h.2⟩

/-- A floating operation is carried out ahead of floating ones. -/
theorem pull_fl {K : AEnv → Heap → Prop} {Kp : AV → Heap → Prop} {d : DOp} {post : List DOp} (hd : d.fl = true) (hdf : d.o.op.floats = true) {A : Heap} : ∀ (pre : List DOp) (env : AEnv), (∀ e ∈ pre, e.fl = true ∧ e.o.op.floats = true ∧ indep d.o e.o = true) →
    awD P (pre ++ d :: post) K Kp env A → ∃ v0, (∀ K' : AV → Prop, K' v0 → gF P d.o env A K') ∧ awD P (pre ++ post) K Kp (put env d.o.dst v0) A
  | [], env, hp, h => by
    simp only [List.nil_append, awD, hd] at h ⊢
    obtain ⟨v, h1, _, g⟩ := (gF_uni hdf env A).out _ _ h h
    exact ⟨v, g, h1⟩
  | e :: pre, env, hp, h => by
    obtain ⟨hef, heo, hind⟩ := hp e (by simp)
    obtain ⟨i1, i2, i3⟩ := indep_spec hind
    simp only [List.cons_append, awD, hef] at h ⊢
    obtain ⟨ve, h1, _, g⟩ := (gF_uni heo env A).out _ _ h h
    have cd : ∀ t ∈ d.o.uses, put env e.o.dst ve t = env t := fun t ht => put_ne fun e' => i3 t e' ht
    obtain ⟨v0, G, h2⟩ := pull_fl hd hdf pre (put env e.o.dst ve) (fun x hx => hp x (by simp [hx])) h1
    refine ⟨v0, fun K' hk => by rw [← gF_congr cd]; exact G K' hk, ?_⟩
    have ce : ∀ t ∈ e.o.uses, put env d.o.dst v0 t = env t := fun t ht => put_ne fun e' => i1 t e' ht
    rw [gF_congr ce]
    refine g _ ?_
    rw [put_comm (fun t ht => i2 t ht)]
    exact h2

theorem keepL_get {env : AEnv} {A A' : Heap} : ∀ {l : List Nat}, keepL l env A A' → ∀ n ∈ l, keep1 (env n) A A'
  | t :: l, h, n, hn => by
    rcases List.mem_cons.1 hn with rfl | hn
    · exact h.1
    · exact keepL_get h.2 n hn
theorem aload_keep {sh : Sh} {sz : Nat} {p : AV} {A A' : Heap} {K : AV → Prop} (hk : keep1 p A A') (h : aload sh sz p A fun v _ => K v) : aload sh sz p A' fun v _ => K v := by
  cases p <;> try exact h
  case ptr g o => have hk' : A' g = A g := hk; rw [aload, hk']; exact h
  case pix g o m i => have hk' : A' g = A g := hk; rw [aload, hk']; exact h
  case pel g i o => have hk' : A' g = A g := hk; rw [aload, hk']; exact h
theorem srcI_keep {k : IntKind} {s : AV} {A A' : Heap} {Q : List Int → Prop} (hk : keep1 s A A') (h : srcI k s A Q) : srcI k s A' Q := by
  cases s <;> try exact h
  case own g i n => have hk' : A' g = A g := hk; simp only [srcI] at h ⊢; rw [hk']; exact h
  case asl g o m i n => have hk' : A' g = A g := hk; simp only [srcI] at h ⊢; rw [hk']; exact h
theorem fl_keep {o : AOp} {ns : List Nat} (ho : o.rds = some ns) {env : AEnv} {A A' : Heap} {K : AV → Prop} (hk : ∀ n ∈ ns, keep1 (env n) A A') (h : fl P o env A K) : fl P o env A' K := by
  unfold AOp.rds at ho
  split at ho <;> try (cases ho; done)
  · rename_i n; injection ho with ho; subst ho
    exact aload_keep (hk n (by simp)) h
  · rename_i sz n i; injection ho with ho; subst ho
    have hk := hk n (by simp)
    simp only [fl, aop] at h ⊢
    generalize ev env i = iv at h ⊢
    cases iv <;> try exact h
    simp only [aint, ev] at h ⊢
    generalize env n = xv at h hk ⊢
    cases xv <;> try exact h
    rename_i g i0 n
    have hk' : A' g = A g := hk
    simp only [aidxP, aidx] at h ⊢
    rw [hk']; exact h
  · rename_i sz n lo hi; injection ho with ho; subst ho
    have hk := hk n (by simp)
    simp only [fl, aop, ev] at h ⊢
    obtain ⟨h1, h2⟩ := h
    generalize env n = xv at h1 h2 hk ⊢
    refine ⟨?_, ?_⟩
    · cases xv <;> try exact h1
      rename_i g i0 n
      have hk' : A' g = A g := hk
      simp only [szOK] at h1 ⊢
      rw [hk']; exact h1
    · cases xv <;> exact h2
  · rename_i n; injection ho with ho; subst ho
    exact ⟨h.1, srcI_keep (hk n (by simp)) h.2⟩
  · rename_i n; injection ho with ho; subst ho
    have hk := hk n (by simp)
    simp only [fl, aop, List.map_cons, List.map_nil, ev] at h ⊢
    generalize env n = xv at h hk ⊢
    cases xv <;> try exact h
    rename_i g i0 n
    have hk' : A' g = A g := hk
    simp only [xop] at h ⊢
    rw [hk']; exact h
theorem rds_uses {o : AOp} {ns : List Nat} (ho : o.rds = some ns) : ∀ n ∈ ns, n ∈ o.uses := by
  unfold AOp.rds at ho
  split at ho <;> try (cases ho; done)
  all_goals
    injection ho with ho; subst ho
    intro m hm
    simp only [List.mem_singleton] at hm
    subst hm
    simp only [AOp.uses, AO.uses, List.flatMap_cons, List.flatMap_nil, List.mem_append, List.mem_singleton, true_or]
theorem rds_reads {o : AOp} {ns : List Nat} (ho : o.rds = some ns) : o.reads = true := by
  unfold AOp.rds at ho
  split at ho <;> first | rfl | (cases ho; done)
theorem gF_keep {o : AOper} {ns : List Nat} (ho : o.op.rds = some ns) {env : AEnv} {A A' : Heap} {K : AV → Prop} (hk : ∀ n ∈ ns, keep1 (env n) A A') (h : gF P o env A K) : gF P o env A' K := by
  unfold gF at h ⊢
  cases hg : o.g with
  | none => rw [hg] at h; exact fl_keep ho hk h
  | some sw =>
    obtain ⟨s, want⟩ := sw
    rw [hg] at h
    simp only at h ⊢
    cases hs : env s <;> rw [hs] at h <;> first | exact h.elim | skip
    · exact h
    exact ⟨fun e => fl_keep ho hk (h.1 e), h.2⟩

/-- An operation that does not float is carried out ahead of floating ones. -/
theorem pull_ch {K : AEnv → Heap → Prop} {Kp : AV → Heap → Prop} {d : DOp} {post : List DOp} (hd : d.fl = false) (hdf : d.o.op.floats = false) {A : Heap} : ∀ (pre : List DOp) (env : AEnv),
    (∀ e ∈ pre, e.fl = true ∧ e.o.op.floats = true ∧ indep d.o e.o = true ∧ (e.o.op.reads = false ∨ d.st = true ∧ (d.ks = none ∨ ∃ l ns, d.ks = some l ∧ e.o.op.rds = some ns ∧ ∀ n ∈ ns, n ∈ l))) →
    (d.ks ≠ none → pre.Pairwise (fun p e => p.o.op.reads = true → ∀ t, e.o.dst = some t → t ∉ p.o.uses) ∧ ∀ p ∈ pre, p.o.op.reads = true → ∀ t, p.o.dst = some t → t ∉ p.o.uses) →
    awD P (pre ++ d :: post) K Kp env A → ∃ envx : AEnv, (∀ t, (∀ e ∈ pre, e.o.dst ≠ some t) → envx t = env t) ∧ gC P d.o env A (fun v A' => (d.st = true → keepC d.ks envx A A') ∧ awD P (pre ++ post) K Kp (put env d.o.dst v) A') Kp
  | [], env, hp, hpw, h => by
    simp only [List.nil_append, awD, hd] at h ⊢
    exact ⟨env, fun _ _ => rfl, h.2⟩
  | e :: pre, env, hp, hpw, h => by
    obtain ⟨hef, heo, hind, hek⟩ := hp e (by simp)
    obtain ⟨i1, i2, i3⟩ := indep_spec hind
    simp only [List.cons_append, awD, hef] at h ⊢
    obtain ⟨ve, h1, _, g⟩ := (gF_uni heo env A).out _ _ h h
    have cd : ∀ t ∈ d.o.uses, put env e.o.dst ve t = env t := fun t ht => put_ne fun e' => i3 t e' ht
    obtain ⟨envx, hx, this⟩ := pull_ch hd hdf pre (put env e.o.dst ve) (fun x hx => hp x (by simp [hx])) (fun hn => ⟨(List.pairwise_cons.1 (hpw hn).1).2, fun p hp => (hpw hn).2 p (by simp [hp])⟩) h1
    rw [gC_congr cd] at this
    refine ⟨envx, fun t ht => ?_, gC_mono hdf ?_ this⟩
    · rw [hx t fun e' he' => ht e' (by simp [he'])]
      exact put_ne (ht e (by simp))
    rintro v A' ⟨h2, h3⟩
    refine ⟨h2, ?_⟩
    have ce : ∀ t ∈ e.o.uses, put env d.o.dst v t = env t := fun t ht => put_ne fun e' => i1 t e' ht
    rw [gF_congr ce]
    have main := g (fun u => awD P (pre ++ post) K Kp (put (put env d.o.dst v) e.o.dst u) A') (by rw [put_comm (fun t ht => i2 t ht)]; exact h3)
    rcases hek with hr | ⟨hst, hks⟩
    · exact gF_to heo (.inr hr) main
    · rcases h2 hst with hs | hs
      · exact gF_to heo (.inl hs) main
      · rcases hks with hn | ⟨l, ns, hl, hns, hsub⟩
        · rw [hn] at hs; exact hs.elim
        · rw [hl] at hs
          refine gF_keep hns (fun n hn => ?_) main
          have hu : n ∈ e.o.uses := by
            have := rds_uses hns n hn
            simp [AOper.uses, this]
          have hrd : e.o.op.reads = true := by
            exact rds_reads hns
          have hne : d.ks ≠ none := by rw [hl]; simp
          have e1 : envx n = env n := by
            rw [hx n fun e' he' hd' => (List.pairwise_cons.1 (hpw hne).1).1 e' he' hrd n hd' hu]
            exact put_ne fun hd' => (hpw hne).2 e (by simp) hrd n hd' hu
          rw [← e1]
          exact keepL_get hs n (hsub n hn)

/-! ### what only makes memory may be done ahead of its turn -/
theorem intsOf_congr {k : IntKind} {l : List AV} {ys : List Int} (h : intsOf k l = some ys) : ys.length = l.length := by
  induction l generalizing ys with
  | nil => simp [intsOf] at h; subst h; rfl
  | cons v r ih =>
    cases v <;> simp only [intsOf] at h <;> try (cases h)
    split at h
    · obtain ⟨y, hy, rfl⟩ := opt_map h
      simp [ih hy]
    · cases h
theorem mkL_congr {o : AOp} {env env' : AEnv} (h : ∀ t ∈ o.uses, env t = env' t) : mkL o env = mkL o env' := by
  cases o <;> try rfl
  case box => simp only [AOp.uses] at h; simp only [mkL]; rw [ev_congr h]
  case bslI => simp only [AOp.uses] at h; simp only [mkL]; rw [fillAll_congr _ h]
  case bsl => simp only [AOp.uses] at h; simp only [mkL]; rw [fillAll_congr _ h]
  case xx o xs => cases o <;> first | rfl | (cases xs <;> rfl)
theorem late_xx {o : XOp} {xs : List AO} (h : (AOp.xx o xs).late = true) : ∃ k, o = .mkM k ∧ xs = [] := by
  cases o <;> simp only [AOp.late, Bool.false_eq_true] at h
  cases xs with
  | nil => exact ⟨_, rfl, rfl⟩
  | cons => simp at h
theorem mkL_xx {o : XOp} {xs : List AO} {env : AEnv} {x : (Nat → AV) × Cont} (h : mkL (.xx o xs) env = some x) : ∃ k, o = .mkM k ∧ xs = [] ∧ x = (fun g => .map g, .mp k []) := by
  cases o <;> simp only [mkL] at h <;> try (cases h; done)
  cases xs with
  | nil => injection h with h; exact ⟨_, rfl, rfl, h.symm⟩
  | cons => simp at h
theorem mkL_late {o : AOp} {env : AEnv} {x : (Nat → AV) × Cont} (h : mkL o env = some x) : ∀ {A : Heap} {K Kp : AV → Heap → Prop}, aop P o env A K Kp ↔ ∀ g, A g = none → K (x.1 g) (A.set g x.2) := by
  intro A K Kp
  cases o <;> simp only [mkL] at h <;> try (cases h; done)
  case alloc t z => injection h with h; subst h; exact Iff.rfl
  case box t sh y =>
    split at h
    · rename_i hg
      obtain ⟨v, hv, rfl⟩ := opt_map h
      simp only [aop, abox, hv, hg, true_and]
    · cases h
  case bslI e k xs =>
    split at h
    · rename_i l hl
      obtain ⟨ys, hy, rfl⟩ := opt_map h
      simp only [aop, abslI, hl, hy]
    · cases h
  case bsl e sh sz xs =>
    obtain ⟨l, hl, rfl⟩ := opt_map h
    simp only [aop, absl, hl]
  case xx o xs =>
    obtain ⟨k, rfl, rfl, rfl⟩ := mkL_xx h
    exact Iff.rfl
theorem late_some {o : AOp} (ho : o.late = true) {env : AEnv} {A : Heap} {K Kp : AV → Heap → Prop} (h : aop P o env A K Kp) : (mkL o env).isSome = true := by
  cases o <;> simp only [AOp.late, Bool.false_eq_true] at ho <;> simp only [mkL]
  case alloc => rfl
  case box t sh y =>
    simp only [aop] at h
    rw [if_pos h.1]
    have h2 := h.2
    unfold abox at h2
    split at h2
    · exact h2.elim
    · rename_i hv; rw [hv]; rfl
  case bslI e k xs =>
    simp only [aop, abslI] at h
    split at h
    · rename_i l hl
      split at h
      · rename_i ys hy; rw [hl]; simp only [hy]; rfl
      · exact h.elim
    · exact h.elim
  case bsl e sh sz xs =>
    simp only [aop, absl] at h
    split at h
    · rename_i l hl; rw [hl]; rfl
    · exact h.elim
  case xx o xs =>
    obtain ⟨k, rfl, rfl⟩ := late_xx ho
    rfl
theorem late_nofl {o : AOp} (ho : o.late = true) : o.floats = false := by
  cases o with
  | xx o xs => obtain ⟨k, rfl, rfl⟩ := late_xx ho; rfl
  | _ => simp only [AOp.late, Bool.false_eq_true] at ho <;> rfl
theorem mkL_addr {o : AOp} (ho : o.late = true) (hne : o.empty = false) {env : AEnv} {x : (Nat → AV) × Cont} (h : mkL o env = some x) {E : Emb} {w : World} {g : Nat} (hc : RepC E w g x.2) : ∃ b off, (E.loc g).addr = some (b, off) := by
  have rowc : ∀ {xs : List AO} {n : Nat}, n = xs.length → xs ≠ [] → 0 < n := by
    intro xs n hn he; cases xs with
    | nil => exact absurd rfl he
    | cons => simp [hn]
  cases o <;> simp only [mkL] at h <;> try (cases h; done)
  case alloc t z => injection h with h; subst h; obtain ⟨b, cs, ha, _⟩ := hc; exact ⟨b, 0, ha⟩
  case box t sh y =>
    split at h
    · obtain ⟨v, hv, rfl⟩ := opt_map h
      obtain ⟨b, cs, ha, _⟩ := hc; exact ⟨b, 0, ha⟩
    · cases h
  case bslI e k xs =>
    split at h
    · rename_i l hl
      obtain ⟨ys, hy, rfl⟩ := opt_map h
      obtain ⟨_, hr, ⟨_, h0⟩ | ⟨b, off, C, ha, _⟩⟩ := hc
      · have := rowc ((intsOf_congr hy).trans (fillAll_length hl)) (by rintro rfl; cases hne)
        omega
      · exact ⟨b, off, ha⟩
    · cases h
  case bsl e sh sz xs =>
    obtain ⟨l, hl, rfl⟩ := opt_map h
    obtain ⟨_, hr, ⟨_, h0⟩ | ⟨b, off, C, ha, _⟩⟩ := hc
    · have := rowc (fillAll_length hl) (by rintro rfl; cases hne)
      omega
    · exact ⟨b, off, ha⟩
  case xx o xs =>
    obtain ⟨k, rfl, rfl, rfl⟩ := mkL_xx h
    obtain ⟨b, es, ck, ha, _⟩ := hc; exact ⟨b, 0, ha⟩
theorem lsOK_congr {ls : List Nat} {env env' : AEnv} : ∀ {l : List DOp}, (∀ p ∈ l, p.o.op.late = true → hasD ls p.o.dst = true → ∀ t ∈ p.o.op.uses, env t = env' t) → lsOK ls l env → lsOK ls l env'
  | [], _, h => h
  | p :: r, hc, h => by
    simp only [lsOK] at h ⊢
    refine ⟨fun h1 h2 => ?_, lsOK_congr (fun q hq => hc q (by simp [hq])) h.2⟩
    rw [← mkL_congr (hc p (by simp) h2 h1)]
    exact h.1 h1 h2
theorem lsOK_get {ls : List Nat} {env : AEnv} {p : DOp} (hc : hasD ls p.o.dst = true) (hl : p.o.op.late = true) : ∀ (l : List DOp), lsOK ls l env → p ∈ l → (mkL p.o.op env).isSome = true
  | [], _, hp => by simp at hp
  | q :: r, h, hp => by
    obtain ⟨h1, h2⟩ := h
    rcases List.mem_cons.1 hp with rfl | hp
    · exact h1 hc hl
    · exact lsOK_get hc hl r h2 hp

def ksHas (ks : Option (List Nat)) (d : Option Nat) : Bool := match ks with
  | none => false
  | some l => hasD l d
theorem keepL_upd {env : AEnv} {A A' : Heap} {t : Nat} {v : AV} : ∀ {l : List Nat}, l.contains t = false → keepL l env A A' → keepL l (upd env t v) A A'
  | [], _, _ => trivial
  | n :: l, ht, h => by
    simp only [List.contains_cons, Bool.or_eq_false_iff, beq_eq_false_iff_ne, ne_eq] at ht
    refine ⟨?_, keepL_upd ht.2 h.2⟩
    simp only [upd]
    rw [if_neg (fun e => ht.1 e.symm)]
    exact h.1
theorem keepC_upd {ks : Option (List Nat)} {env : AEnv} {A A' : Heap} {t : Nat} {v : AV} (ht : ksHas ks (some t) = false) (h : keepC ks env A A') : keepC ks (upd env t v) A A' := by
  rcases h with h | h
  · exact .inl h
  · refine .inr ?_
    cases ks with
    | none => exact h
    | some l => exact keepL_upd ht h
theorem upd_self {env : AEnv} {t : Nat} {v : AV} (h : env t = v) : upd env t v = env := by
  funext x; simp only [upd]; split
  · rename_i e; subst e; exact h.symm
  · rfl
/-- What a later operation is to write may stand there already. -/
theorem awD_put {K : AEnv → Heap → Prop} {Kp : AV → Heap → Prop} {q : DOp} {post : List DOp} {t : Nat} {v : AV} (hq : q.fl = false) (hqo : q.o.op.floats = false) (hg : q.o.g = none) (hd : q.o.dst = some t)
    (hqu : t ∉ q.o.op.uses) (hqk : ksHas q.ks (some t) = false) : ∀ (pre : List DOp) (env : AEnv) (A : Heap), (∀ e ∈ pre, e.fl = e.o.op.floats ∧ t ∉ e.o.uses ∧ e.o.dst ≠ some t ∧ ksHas e.ks (some t) = false) → (∀ e ∈ pre ++ q :: post, ∀ p ∈ pre ++ q :: post, p.o.op.late = true → hasD e.ls p.o.dst = true → t ∉ p.o.op.uses) →
    awD P (pre ++ q :: post) K Kp env A → awD P (pre ++ q :: post) K Kp (upd env t v) A
  | [], env, A, _, hl, h => by
    have hu : q.o.uses = q.o.op.uses := by simp [AOper.uses, hg]
    simp only [List.nil_append, awD, hq] at h ⊢
    refine ⟨lsOK_congr (fun p hp hpl hpd s hs => ?_) h.1, ?_⟩
    · simp only [upd]; rw [if_neg]; rintro rfl; exact hl q (by simp) p (by simp [hp]) hpl hpd hs
    · have c : ∀ s ∈ q.o.uses, upd env t v s = env s := fun s hs => by
        simp only [upd]; rw [if_neg]; rintro rfl; rw [hu] at hs; exact hqu hs
      rw [gC_congr c]
      refine gC_mono hqo ?_ h.2
      rintro u A' ⟨h1, h2⟩
      refine ⟨fun hst => keepC_upd hqk (h1 hst), ?_⟩
      rw [hd] at h2 ⊢
      have : put (upd env t v) (some t) u = put env (some t) u := by
        funext x; simp only [put, upd]; split <;> rfl
      rw [this]; exact h2
  | e :: pre, env, A, hp, hl, h => by
    obtain ⟨hef, heu, hed, hek⟩ := hp e (by simp)
    have c : ∀ s ∈ e.o.uses, upd env t v s = env s := fun s hs => by
      simp only [upd]; rw [if_neg]; rintro rfl; exact heu hs
    have sw : ∀ u, put (upd env t v) e.o.dst u = upd (put env e.o.dst u) t v := fun u => by
      have := put_comm (env := env) (d := some t) (e := e.o.dst) (v := v) (u := u) (fun s hs => by injection hs with hs; subst hs; exact hed)
      simpa only [put] using this
    have ih := fun u A' => awD_put (K := K) (Kp := Kp) (v := v) hq hqo hg hd hqu hqk pre (put env e.o.dst u) A' (fun x hx => hp x (by simp [hx])) (fun x hx y hy => hl x (by simp at hx ⊢; exact .inr hx) y (by simp at hy ⊢; exact .inr hy))
    simp only [List.cons_append, awD] at h ⊢
    cases hfl : e.fl with
    | true =>
      rw [hfl] at h
      simp only at h ⊢
      rw [gF_congr c]
      obtain ⟨ve, h1, _, g⟩ := (gF_uni (by rw [← hef]; exact hfl) env A).out _ _ h h
      refine g _ ?_
      rw [sw]
      exact ih ve A h1
    | false =>
      rw [hfl] at h
      simp only at h ⊢
      refine ⟨lsOK_congr (fun p hpm hpl hpd s hs => ?_) h.1, ?_⟩
      · simp only [upd]; rw [if_neg]; rintro rfl; exact hl e (by simp) p (by simp at hpm ⊢; exact .inr hpm) hpl hpd hs
      · rw [gC_congr c]
        refine gC_mono (by rw [← hef]; exact hfl) ?_ h.2
        rintro u A' ⟨h1, h2⟩
        refine ⟨fun hst => keepC_upd hek (h1 hst), ?_⟩
        rw [sw]
        exact ih u A' h2
/-- That a maker can run ahead of its turn. -/
theorem awD_late {K : AEnv → Heap → Prop} {Kp : AV → Heap → Prop} {q : DOp} {post : List DOp} {t : Nat} (hq : q.fl = false) (hql : q.o.op.late = true) (hg : q.o.g = none) (hd : q.o.dst = some t) :
    ∀ (pre : List DOp) (env : AEnv) (A : Heap), (∀ e ∈ pre, (e.fl = true ∧ e.o.op.floats = true ∧ indep q.o e.o = true) ∨ (e.fl = false ∧ hasD e.ls q.o.dst = true)) →
    awD P (pre ++ q :: post) K Kp env A → (mkL q.o.op env).isSome = true
  | [], env, A, _, h => by
    simp only [List.nil_append, awD, hq, gC, hg] at h
    exact late_some hql h.2
  | e :: pre, env, A, hp, h => by
    rcases hp e (by simp) with ⟨hef, heo, hind⟩ | ⟨hef, hls⟩
    · simp only [List.cons_append, awD, hef] at h
      obtain ⟨ve, h1, _, _⟩ := (gF_uni heo env A).out _ _ h h
      have := awD_late hq hql hg hd pre _ A (fun x hx => hp x (by simp [hx])) h1
      rw [mkL_congr (env' := env)] at this
      · exact this
      · intro s hs
        refine put_ne fun e' => (indep_spec hind).2.2 s e' ?_
        simp [AOper.uses, hs]
    · simp only [List.cons_append, awD, hef] at h
      exact lsOK_get hls hql _ h.1 (by simp)
/-- Its turn. -/
theorem pull_late {K : AEnv → Heap → Prop} {Kp : AV → Heap → Prop} {q : DOp} {post : List DOp} (hq : q.fl = false) (hg : q.o.g = none) {x : (Nat → AV) × Cont} {A : Heap} {g : Nat} (hA : A g = none) :
    ∀ (pre : List DOp) (env : AEnv), (∀ e ∈ pre, e.fl = true ∧ e.o.op.floats = true ∧ indep q.o e.o = true) → mkL q.o.op env = some x →
    awD P (pre ++ q :: post) K Kp env A → awD P (pre ++ post) K Kp (put env q.o.dst (x.1 g)) (A.set g x.2)
  | [], env, _, hm, h => by
    simp only [List.nil_append, awD, hq, gC, hg] at h ⊢
    exact ((mkL_late hm).1 h.2 g hA).2
  | e :: pre, env, hp, hm, h => by
    obtain ⟨hef, heo, hind⟩ := hp e (by simp)
    obtain ⟨i1, i2, i3⟩ := indep_spec hind
    simp only [List.cons_append, awD, hef] at h ⊢
    obtain ⟨ve, h1, _, G⟩ := (gF_uni heo env A).out _ _ h h
    have := pull_late hq hg hA pre (put env e.o.dst ve) (fun y hy => hp y (by simp [hy])) (by
      rw [← hm]
      refine mkL_congr fun s hs => put_ne fun e' => i3 s e' ?_
      simp [AOper.uses, hs]) h1
    have ce : ∀ t ∈ e.o.uses, put env q.o.dst (x.1 g) t = env t := fun t ht => put_ne fun e' => i1 t e' ht
    rw [gF_congr ce]
    refine gF_to heo (.inl fun g' c hg' => by rw [Heap.set_ne _ _ (fun e => by subst e; rw [hA] at hg'; cases hg')]; exact hg') (G _ ?_)
    rw [put_comm (fun t ht => i2 t ht)]
    exact this
end
end AVL

/- A region whose order is open does what its operations do in the order that awD has. -/
namespace AVL
open Go
set_option linter.unusedSimpArgs false
set_option linter.unusedVariables false

structure DRow where
  i : Nat
  d : DOp
def ancT (T : List (List Nat)) (i : Nat) : List Nat := T.getD i []
def AOp.sure : AOp → Bool
  | .alloc .. => true
  | _ => false
def lateO (o : AOper) : Bool := o.op.late && o.g.isNone && o.dst.isSome
def lateQ (p : DRow) : Bool := lateO p.d.o
def rdOK (p q : DRow) : Bool := !p.d.o.op.reads || (q.d.st && (match q.d.ks with
  | none => true
  | some l => match p.d.o.op.rds with
    | some ns => ns.all l.contains
    | none => false))
def relT (T : List (List Nat)) (p q : DRow) : Bool :=
  p.i != q.i && ((ancT T q.i).contains p.i || (indep q.d.o p.d.o && (lateQ q || (p.d.fl && (q.d.fl || rdOK p q)))))
def kp1 (p e : DRow) : Bool := !p.d.o.op.reads || !hasD p.d.o.uses e.d.o.dst
/-- What is looked at is not written by what comes behind. -/
def kpAll : List DRow → Bool
  | [] => true
  | p :: r => kp1 p p && (r.all (kp1 p) && kpAll r)
def cKeep : List DRow → List DRow → Bool
  | _, [] => true
  | seen, q :: r => (q.d.ks.isNone || kpAll seen) && cKeep (seen ++ [q]) r
def relAll (T : List (List Nat)) : List DRow → Bool
  | [] => true
  | p :: r => r.all (relT T p) && relAll T r
/-- Of a maker that may run early: who uses it waits for all that stands before it; those are told of it; no other maker uses it. -/
def cLate (T : List (List Nat)) : List DRow → List DRow → Bool
  | _, [] => true
  | seen, q :: r => (!lateQ q || seen.all (fun e => e.d.fl || (ancT T q.i).contains e.i ||
      ((q.d.o.op.sure || hasD e.d.ls q.d.o.dst) && r.all (fun p => !(ancT T p.i).contains q.i || (ancT T p.i).contains e.i)))) && cLate T (q :: seen) r
def cUse (L : List DRow) : Bool := L.all fun q => !lateQ q || ((!hasD q.d.o.op.uses q.d.o.dst && L.all fun e => !ksHas e.d.ks q.d.o.dst) && L.all fun e => e.d.ls.isEmpty || L.all fun p => !p.d.o.op.late || !hasD e.d.ls p.d.o.dst || !hasD p.d.o.op.uses q.d.o.dst)
def cAnc (ops : Array Oper) (T : List (List Nat)) (i : Nat) : Bool :=
  match ops[i]? with
  | some o => (ancT T i).all fun j => o.after.toList.any fun e => Region.binds .any e && (e.on == j || (ancT T e.on).contains j)
  | none => false
def cPre (ops : Array Oper) : List Nat → List DRow → Bool
  | _, [] => true
  | seen, p :: r => (match ops[p.i]? with
    | some o => o.after.toList.all fun e => !Region.binds .any e || seen.contains e.on
    | none => false) && cPre ops (p.i :: seen) r
def cAll (ops : Array Oper) (T : List (List Nat)) (L : List DRow) : Bool :=
  relAll T L && ((List.range ops.size).all (fun i => cAnc ops T i && L.any (fun p => p.i == i)) && ((cPre ops [] L && (cLate T [] L && (cUse L && cKeep [] L))) && L.all fun p => p.d.fl == p.d.o.op.floats))

/-! the order -/
def addAll : List Nat → List Nat → List Nat
  | [], l => l
  | x :: r, l => addAll r (if l.contains x then l else x :: l)
def ancsOf : List Oper → List (List Nat) → List (List Nat)
  | [], T => T
  | o :: r, T => ancsOf r (T ++ [o.after.toList.foldl (fun acc e => if Region.binds .any e then addAll (e.on :: ancT T e.on) acc else acc) []])
def chained (lt : Bool) (aops : List AOper) (i : Nat) : Bool := match aops[i]? with
  | some o => !o.op.floats && (lt || !lateO o)
  | none => false
def lateAt (aops : List AOper) (i : Nat) : Bool := match aops[i]? with
  | some o => lateO o
  | none => false
def keyOf (lt : Bool) (aops : List AOper) (T : List (List Nat)) (i : Nat) : Nat :=
  ((((ancT T i).filter (chained lt aops)).length + (if chained lt aops i then 1 else 0)) * 2 + (if chained lt aops i then 0 else 1)) * (aops.length + 1) + i
def insK (k : Nat → Nat) (i : Nat) : List Nat → List Nat
  | [] => [i]
  | j :: r => if k i < k j then i :: j :: r else j :: insK k i r
def emitL (T : List (List Nat)) (lates : List Nat) : List Nat → List Nat → List Nat
  | [], seen => lates.filter (fun q => !seen.contains q)
  | d :: r, seen => lates.filter (fun q => !seen.contains q && (ancT T d).contains q) ++ d :: emitL T lates r (lates.filter (fun q => !seen.contains q && (ancT T d).contains q) ++ seen)
def sortK (k : Nat → Nat) (l : List Nat) : List Nat := l.foldl (fun l i => insK k i l) []
def orders (aops : List AOper) (T : List (List Nat)) (m : Nat) : List (List Nat) :=
  let all := List.range m
  let lates := all.filter (lateAt aops)
  let base := all.filter (fun i => !lateAt aops i)
  [sortK (keyOf true aops T) all, emitL T lates (sortK (keyOf true aops T) base) [], emitL T lates (sortK (keyOf false aops T) base) []]
def lsOf (T : List (List Nat)) (i : Nat) (l : List DRow) : List Nat :=
  l.filterMap fun q => if lateQ q && !q.d.o.op.sure && !(ancT T q.i).contains i then q.d.o.dst else none
def stOf (aops : List AOper) (T : List (List Nat)) (seen : List Nat) (i : Nat) (o : AOper) : Bool :=
  !o.op.floats && !lateO o && seen.any (fun j => !(ancT T i).contains j && (match aops[j]? with
    | some e => e.op.floats && e.op.reads
    | none => false))
/-- The slots that are looked up by what may come later; where that can be told. -/
def ksOf (aops : List AOper) (T : List (List Nat)) (seen : List Nat) (i : Nat) : Option (List Nat) :=
  let es := (seen.reverse.filterMap fun j => (aops[j]?).map fun o => (⟨j, ⟨o, o.op.floats, false, none, []⟩⟩ : DRow))
  if kpAll es then (es.filter fun e => e.d.fl && e.d.o.op.reads && !(ancT T i).contains e.i).foldl (fun acc e => match acc, e.d.o.op.rds with
    | some l, some ns => some (ns ++ l)
    | _, _ => none) (some []) else none
def rowsOf (aops : List AOper) (T : List (List Nat)) : List Nat → List Nat → Option (List DRow)
  | _, [] => some []
  | seen, i :: r => match aops[i]?, rowsOf aops T (i :: seen) r with
    | some o, some l => some (⟨i, ⟨o, o.op.floats, stOf aops T seen i o, if stOf aops T seen i o then ksOf aops T seen i else none, if o.op.floats then [] else lsOf T i l⟩⟩ :: l)
    | _, _ => none
def pickL (ops : Array Oper) (aops : List AOper) (T : List (List Nat)) : List (List Nat) → Option (List DRow)
  | [] => none
  | is :: r => match rowsOf aops T [] is with
    | some L => if cAll ops T L = true ∧ L.length ≤ ops.size then some L else pickL ops aops T r
    | none => pickL ops aops T r
def trD (P : Program) (n : Nat) (ops : Array Oper) : Option (List DOp) :=
  match trOpers P n ops ops.toList with
  | some aops => match pickL ops aops (ancsOf ops.toList []) (orders aops (ancsOf ops.toList []) ops.size) with
    | some L => some (L.map (·.d))
    | none => none
  | none => none

section
variable {P : Program} {D : List Deferred} {n : Nat} {ops : Array Oper} {Q : Exit → Act → World → Prop} {ro : Option Nat}

theorem trOpers_get : ∀ (l : List Oper) (aops : List AOper), trOpers P n ops l = some aops → ∀ (i : Nat) (ao : AOper), aops[i]? = some ao → ∃ o, l[i]? = some o ∧ trOper P n ops o = some ao
  | [], aops, h, i, ao, hi => by simp only [trOpers] at h; injection h with h; subst h; simp at hi
  | o :: r, aops, h, i, ao, hi => by
    simp only [trOpers] at h
    split at h
    · rename_i a l h1 h2
      injection h with h; subst h
      cases i with
      | zero => simp at hi; subst hi; exact ⟨o, by simp, h1⟩
      | succ i => simp at hi; obtain ⟨o', h3, h4⟩ := trOpers_get r l h2 i ao hi; exact ⟨o', by simpa using h3, h4⟩
    · cases h
theorem rowsOf_get {aops : List AOper} {T : List (List Nat)} : ∀ (is seen : List Nat) (L : List DRow), rowsOf aops T seen is = some L → ∀ p ∈ L, aops[p.i]? = some p.d.o
  | [], seen, L, h, p, hp => by simp only [rowsOf] at h; injection h with h; subst h; simp at hp
  | i :: r, seen, L, h, p, hp => by
    simp only [rowsOf] at h
    split at h
    · rename_i o l h1 h2
      injection h with h; subst h
      rcases List.mem_cons.1 hp with rfl | hp
      · exact h1
      · exact rowsOf_get r _ l h2 p hp
    · cases h

theorem pickL_spec {aops : List AOper} {T : List (List Nat)} : ∀ (l : List (List Nat)) (L : List DRow), pickL ops aops T l = some L → ∃ is, rowsOf aops T [] is = some L ∧ cAll ops T L = true ∧ L.length ≤ ops.size
  | [], L, h => by cases h
  | is :: r, L, h => by
    simp only [pickL] at h
    split at h
    · rename_i L' hL
      split at h
      · rename_i hc; injection h with h; subst h; exact ⟨is, hL, hc.1, hc.2⟩
      · exact pickL_spec r L h
    · exact pickL_spec r L h

theorem trOper_spec {o : Oper} {d : AOper} (h : trOper P n ops o = some d) : trOp P o.op = some d.op ∧ d.dst = o.dst ∧ inB n o.dst = true ∧ trGuard ops o.guard = some d.g ∧ inG n d.g = true := by
  unfold trOper at h
  split at h
  · rename_i ao g h1 h2
    split at h
    · rename_i hh
      injection h with h; subst h
      exact ⟨h1, rfl, hh.1, h2, hh.2⟩
    · cases h
  · cases h
theorem guard_ok {o : Oper} {d : AOper} (h : trOper P n ops o = some d) {E : Emb} {env : AEnv} {a : Act} (he : EnvR E env a) (ha : a.tmps.size = n) :
    (d.g = none → Region.wanted o (yielded ops a.tmps) = true) ∧ (∀ s want b, d.g = some (s, want) → env s = .bool b → Region.wanted o (yielded ops a.tmps) = (b == want)) ∧
    (∀ s want, d.g = some (s, want) → env s = .undef → Region.wanted o (yielded ops a.tmps) = false) := by
  obtain ⟨_, _, _, hg, hin⟩ := trOper_spec h
  cases hg0 : o.guard with
  | none =>
    rw [hg0] at hg
    simp only [trGuard] at hg
    injection hg with hg
    refine ⟨fun _ => by simp [Region.wanted, hg0], fun s want b e => ?_, fun s want e => ?_⟩ <;> (rw [← hg] at e; cases e)
  | some jw =>
    obtain ⟨j, want⟩ := jw
    rw [hg0] at hg
    simp only [trGuard] at hg
    split at hg
    · rename_i oj hj
      split at hg
      · rename_i t hdst
        injection hg with hg
        refine ⟨fun e => (by rw [← hg] at e; cases e), fun s want' b e hb => ?_, fun s want' e hb => ?_⟩
        rotate_left
        · rw [← hg] at e
          injection e with e; injection e with e1 e2; subst e1; subst e2
          rw [← hg] at hin
          have hd2 : t < a.tmps.size := by rw [ha]; simpa [inG] using hin
          have hy : yielded ops a.tmps j = none := by
            have := he t
            rw [hb] at this
            have := TV_undef_eq this
            rw [Array.getD_eq_getD_getElem?, Array.getElem?_eq_getElem hd2] at this
            simp only [Option.getD_some] at this
            simp [yielded, hj, hdst, Array.getElem?_eq_getElem hd2, this, undef]
          simp [Region.wanted, hg0, hy]
        rw [← hg] at e
        injection e with e; injection e with e1 e2; subst e1; subst e2
        rw [← hg] at hin
        have hd2 : t < a.tmps.size := by rw [ha]; simpa [inG] using hin
        have hy : yielded ops a.tmps j = some b := by
          have := he t
          rw [hb] at this
          simp only [TV_bool] at this
          rw [Array.getD_eq_getD_getElem?, Array.getElem?_eq_getElem hd2] at this
          simp only [Option.getD_some] at this
          simp [yielded, hj, hdst, Array.getElem?_eq_getElem hd2, this]
        simp only [Region.wanted, hg0, hy]
        cases b <;> cases want <;> rfl
      · cases hg
    · cases hg

theorem stepF {i : Nat} {o : Oper} {d : AOper} (hi : ops[i]? = some o) (ht : trOper P n ops o = some d) (hf : d.op.floats = true) {E : Emb} {A : Heap} {w : World} {env : AEnv} {a : Act} (hR : Rep E A w) (he : EnvR E env a) (ha : a.tmps.size = n)
    {v0 : AV} (G : gF P d env A (fun v => v = v0)) {KK : Act → World → Prop} (hn : ∀ c w', Rep E A w' → Same w w' → TV E v0 c → KK (a.put o.dst c) w') : wpOpIn (Fr ro) 0 P ops Q i KK a w := by
  obtain ⟨hop, hdst, _, _, _⟩ := trOper_spec ht
  obtain ⟨g1, g2, g3⟩ := guard_ok ht he ha
  have run : fl P d.op env A (fun v => v = v0) → o.wpIn (Fr ro) 0 P a w KK Q := by
    intro h
    obtain ⟨v, c, w', hv, hr, hR', hS', hT⟩ := fl_ok hop hf (fun sz x i e => fl_nonil (K := _) (by rw [← e]; exact h)) hR he h
    subst hv
    refine wpIn_of_wp (trOp_nodefer hop) ?_
    unfold Oper.wp
    rw [hr]
    exact hn c w' hR' hS' hT
  unfold wpOpIn
  rw [hi]
  simp only
  unfold gF at G
  cases hg : d.g with
  | none =>
    rw [hg] at G
    rw [if_pos (g1 hg)]
    exact (run G)
  | some sw =>
    obtain ⟨s, want⟩ := sw
    rw [hg] at G
    simp only at G
    split at G
    · rename_i b hb
      have hw := g2 s want b hg hb
      by_cases e : b = want
      · rw [if_pos (by rw [hw]; simpa using e)]
        exact (run (G.1 e))
      · rw [if_neg (by rw [hw]; simpa using e)]
        have := G.2 (by cases b <;> cases want <;> simp_all)
        subst this
        exact ⟨fun _ _ => trivial, hn undef w hR (Same.refl w) (TV_undef _ _)⟩
    · rename_i hb
      rw [if_neg (by rw [g3 s want hg hb]; simp)]
      have G' : AV.undef = v0 := G
      subst G'
      exact ⟨fun _ _ => trivial, hn undef w hR (Same.refl w) (TV_undef _ _)⟩
    · exact G.elim
theorem stepC {i : Nat} {o : Oper} {d : AOper} (hi : ops[i]? = some o) (ht : trOper P n ops o = some d) {E : Emb} {A : Heap} {w : World} {env : AEnv} {a : Act} (hR : Rep E A w) (he : EnvR E env a) (ha : a.tmps.size = n)
    {K Kp : AV → Heap → Prop} (G : gC P d env A K Kp) {KK : Act → World → Prop} (hn : ∀ v A' E' w' c, K v A' → Rep E' A' w' → E.Le E' → Same w w' → TV E' v c → KK (a.put o.dst c) w')
    (hp : ∀ v A' E' w' c, Kp v A' → Rep E' A' w' → E.Le E' → Same w w' → TV E' v c → Q (.panic [{ v := c, recovered := false }]) a w') : wpOpIn (Fr ro) 0 P ops Q i KK a w := by
  obtain ⟨hop, hdst, _, _, _⟩ := trOper_spec ht
  obtain ⟨g1, g2, g3⟩ := guard_ok ht he ha
  have run : aop P d.op env A K Kp → o.wpIn (Fr ro) 0 P a w KK Q := fun h =>
    oper_ok hop hR he h hn hp
  unfold wpOpIn
  rw [hi]
  simp only
  unfold gC at G
  cases hg : d.g with
  | none =>
    rw [hg] at G
    rw [if_pos (g1 hg)]
    exact (run G)
  | some sw =>
    obtain ⟨s, want⟩ := sw
    rw [hg] at G
    simp only at G
    split at G
    · rename_i b hb
      have hw := g2 s want b hg hb
      by_cases e : b = want
      · rw [if_pos (by rw [hw]; simpa using e)]
        exact (run (G.1 e))
      · rw [if_neg (by rw [hw]; simpa using e)]
        exact ⟨fun _ _ => trivial, hn .undef A E w undef (G.2 (by cases b <;> cases want <;> simp_all)) hR (Emb.Le.refl E) (Same.refl w) (TV_undef _ _)⟩
    · rename_i hb
      rw [if_neg (by rw [g3 s want hg hb]; simp)]
      exact ⟨fun _ _ => trivial, hn .undef A E w undef G hR (Emb.Le.refl E) (Same.refl w) (TV_undef _ _)⟩
    · exact G.elim

theorem relAll_pw {T : List (List Nat)} : ∀ {L : List DRow}, relAll T L = true → L.Pairwise (fun p q => relT T p q = true)
  | [], _ => .nil
  | p :: r, h => by
    simp only [relAll, Bool.and_eq_true, List.all_eq_true] at h
    exact .cons h.1 (relAll_pw h.2)
theorem cPre_spec : ∀ {L : List DRow} {seen : List Nat}, cPre ops seen L = true → ∀ L1 p L2, L = L1 ++ p :: L2 → ∃ o, ops[p.i]? = some o ∧ ∀ e ∈ o.after, Region.binds .any e = true → e.on ∈ seen ∨ ∃ q ∈ L1, q.i = e.on
  | [], seen, h, L1, p, L2, e => by simp at e
  | q :: r, seen, h, L1, p, L2, e => by
    simp only [cPre, Bool.and_eq_true] at h
    obtain ⟨h1, h2⟩ := h
    cases L1 with
    | nil =>
      simp at e
      obtain ⟨rfl, rfl⟩ := e
      split at h1
      · rename_i o ho
        refine ⟨o, ho, fun e he hb => .inl ?_⟩
        simp only [List.all_eq_true] at h1
        have := h1 e (by simpa using he)
        simpa [hb] using this
      · cases h1
    | cons q' L1 =>
      simp at e
      obtain ⟨rfl, e⟩ := e
      obtain ⟨o, ho, hh⟩ := cPre_spec h2 L1 p L2 e
      refine ⟨o, ho, fun e he hb => ?_⟩
      rcases hh e he hb with h3 | ⟨x, hx, hxe⟩
      · rcases List.mem_cons.1 h3 with h3 | h3
        · exact .inr ⟨q, by simp, h3.symm⟩
        · exact .inl h3
      · exact .inr ⟨x, by simp [hx], hxe⟩

theorem getD_tf {listed : Array Bool} {i : Nat} (h : i < listed.size) : listed.getD i true = listed.getD i false := by simp [h]

theorem TV_mono0 {E E' : Emb} (hE : E.Le0 E') {v : AV} {c : Value} (h : TV E v c) : TV E' v c :=
  h.imp (fun ⟨a, xs, hx, hc⟩ => ⟨a, xs, VR_mono0 hE v _ hx, hc⟩) fun ⟨a, hx⟩ => ⟨a, VR_mono0 hE v _ hx⟩
theorem EnvR_mono0 {E E' : Emb} (hE : E.Le0 E') {env : AEnv} {a : Act} (h : EnvR E env a) : EnvR E' env a := fun n => TV_mono0 hE (h n)

theorem cLate_spec {T : List (List Nat)} : ∀ {L : List DRow} {seen : List DRow}, cLate T seen L = true → ∀ L1 q L2, L = L1 ++ q :: L2 → lateQ q = true → ∀ e, e ∈ seen ∨ e ∈ L1 → e.d.fl = false →
    (ancT T q.i).contains e.i = true ∨ ((q.d.o.op.sure || hasD e.d.ls q.d.o.dst) = true ∧ ∀ p ∈ L2, (ancT T p.i).contains q.i = true → (ancT T p.i).contains e.i = true)
  | [], seen, h, L1, q, L2, e, _, _, _, _ => by simp at e
  | x :: r, seen, h, L1, q, L2, e, hq, y, hy, hyf => by
    simp only [cLate, Bool.and_eq_true] at h
    obtain ⟨h1, h2⟩ := h
    cases L1 with
    | nil =>
      simp at e
      obtain ⟨rfl, rfl⟩ := e
      simp only [hq, Bool.not_true, Bool.false_or, List.all_eq_true] at h1
      have hy : y ∈ seen := hy.elim id (fun h => by simp at h)
      have := h1 y hy
      simp only [hyf, Bool.false_or, Bool.or_eq_true, Bool.and_eq_true, List.all_eq_true, Bool.not_eq_true'] at this
      rcases this with h | ⟨h, k⟩
      · exact .inl h
      · refine .inr ⟨by simpa using h, fun p hp hpa => ?_⟩
        rcases k p hp with k | k
        · rw [hpa] at k; cases k
        · exact k
    | cons x' L1 =>
      simp at e
      obtain ⟨rfl, e⟩ := e
      refine cLate_spec h2 L1 q L2 e hq y ?_ hyf
      rcases hy with hy | hy
      · exact .inl (by simp [hy])
      · rcases List.mem_cons.1 hy with rfl | hy
        · exact .inl (by simp)
        · exact .inr hy
theorem fsplit {f : DRow → Bool} : ∀ {L pre post : List DRow} {p : DRow}, L.filter f = pre ++ p :: post → ∃ L1 L2, L = L1 ++ p :: L2 ∧ (∀ e ∈ pre, e ∈ L1) ∧ (∀ e ∈ post, e ∈ L2) ∧ pre = L1.filter f
  | [], pre, post, p, h => by simp at h
  | x :: r, pre, post, p, h => by
    rw [List.filter_cons] at h
    split at h
    · rename_i hx
      cases pre with
      | nil =>
        simp at h
        obtain ⟨rfl, h⟩ := h
        exact ⟨[], r, rfl, by simp, fun e he => by rw [← h] at he; exact (List.mem_filter.1 he).1, rfl⟩
      | cons y pre =>
        simp at h
        obtain ⟨rfl, h⟩ := h
        obtain ⟨L1, L2, rfl, h1, h2, h3⟩ := fsplit h
        refine ⟨x :: L1, L2, rfl, fun e he => ?_, h2, by rw [List.filter_cons, if_pos hx, ← h3]⟩
        rcases List.mem_cons.1 he with rfl | he
        · simp
        · simp [h1 e he]
    · rename_i hx
      obtain ⟨L1, L2, rfl, h1, h2, h3⟩ := fsplit h
      exact ⟨x :: L1, L2, rfl, fun e he => by simp [h1 e he], h2, by rw [List.filter_cons, if_neg hx, ← h3]⟩

/-- An empty row: it has a block of its own. -/
theorem emp_run {o : Oper} {ao : AOp} (ho : trOp P o.op = some ao) (hem : ao.empty = true) {E : Emb} {A : Heap} {w : World} (hR : Rep E A w) {env : AEnv} {a : Act} {x : (Nat → AV) × Cont} (hm : mkL ao env = some x) :
    ∃ (c : Value) (w' : World) (sz : Nat), (execOp a.eval o).run P w = .ok (.value c) w' ∧ Rep (E.push ⟨some (w.heap.size, 0), sz, 0⟩) (A.set E.N x.2) w' ∧ Same w w' ∧ TV (E.push ⟨some (w.heap.size, 0), sz, 0⟩) (x.1 E.N) c := by
  have main : ∀ (t e : TypeId) (len : Nat) (ps : Array (Nat × Operand)) (sz bytes : Nat) (z : AV), o.op = .buildSlice t len ps → P.underlying t = some (.slice e) → elOf P e = some (sz, bytes, z) → trList 0 ps.toList = some [] → ps.size = len →
      (execOp a.eval o).run P w = .ok (.value (.slice (some (pA w.heap.size 0)) 0 0)) (w.alloc (.cells #[] e)) ∧ Rep (E.push ⟨some (w.heap.size, 0), sz, 0⟩) (A.set E.N (.row e sz [])) (w.alloc (.cells #[] e)) ∧ TV (E.push ⟨some (w.heap.size, 0), sz, 0⟩) (.own E.N 0 0) (.slice (some (pA w.heap.size 0)) 0 0) := by
    intro t e len ps sz bytes z hop ht hel hx hlen
    obtain ⟨i, zv, hi, rfl, rfl, hz, hzs, hp, hby, hv⟩ := elOf_ok hel
    have hl0 := trList_length hx
    have hps : ps = #[] := by
      rw [← Array.toArray_toList (xs := ps)]
      have : ps.toList = [] := List.eq_nil_of_length_eq_zero (by simpa using hl0.symm)
      rw [this]
    subst hps
    have hlen : len = 0 := by simpa using hlen.symm
    subst hlen
    have hsize : (Go.sizeOf e).run P w = .ok i.size w := by simp [Go.sizeOf, typeInfo, hi]
    refine ⟨?_, new_row hR (e := e) (l := []) (cs := []) rfl (w1 := w) rfl (C := #[]) (cap := 0) (by simp) (by simp) (fun j hj => by simp at hj)⟩
    simp only [execOp, hop, Instr.buildSlice, run_underlying ht, Sem.run_bind, Result.andThen_ok, hsize, Nat.zero_mul, if_true, Sem.run_pure]
    simp only [show ¬ (0 > 2 ^ 24) by omega, if_false, Sem.run_bind, Sem.run_pure, Result.andThen_ok]
    have hf : Instr.fill (fun j => some (j * i.size, i.size)) (Array.map (fun x => (#[] : Array Value)[x % (#[] : Array Value).size]!) (Array.range 0)) (Array.map (fun x : Nat × Operand => (x.fst, a.eval x.snd)) #[]).toList = some #[] := by
      simp [Instr.fill]
    rw [hf]
    rfl
  rcases trOp_cases ho with ho | ⟨_, _, _, _, _, rfl⟩
  · cases hop : o.op <;> rw [hop] at ho <;> simp only [trOp0] at ho
    case buildSlice t len ps =>
      split at ho
      · rename_i e hu
        split at ho
        · rename_i sz bytes z sh sz' xs h1 h2 h3
          split at ho
          · rename_i hh
            split at ho
            · rename_i k hk
              split at ho
              · rename_i hsz; subst hsz
                injection ho with ho; subst ho
                cases xs with
                | cons => cases hem
                | nil =>
                  obtain ⟨m1, m2, m3⟩ := main t e len ps 1 bytes z hop hu h1 h3 hh.1
                  simp only [mkL, fillAll, intsOf, Option.map_some] at hm
                  injection hm with hm; subst hm
                  exact ⟨_, _, 1, m1, Rep.irow (l := []) m2, Same.alloc _ _, m3⟩
              · cases ho
            · injection ho with ho; subst ho
              cases xs with
              | cons => cases hem
              | nil =>
                obtain ⟨m1, m2, m3⟩ := main t e len ps sz bytes z hop hu h1 h3 hh.1
                simp only [mkL, fillAll, Option.map_some] at hm
                injection hm with hm; subst hm
                exact ⟨_, _, sz, m1, m2, Same.alloc _ _, m3⟩
          · cases ho
        · cases ho
      · cases ho
    case slice t x lo hi mx =>
      cases mx <;> simp only [trOp0] at ho <;> (repeat' (first | (cases ho; done) | (injection ho with ho; subst ho; cases hem; done) | split at ho))
    case call c =>
      obtain ⟨callee, args, argTypes⟩ := c
      simp only at ho
      split at ho
      · split at ho
        · obtain ⟨_, _, e⟩ := opt_map ho; subst e; cases hem
        · cases ho
      · obtain ⟨_, _, e⟩ := opt_map ho; subst e; cases hem
      · rename_i b
        unfold trBuiltin at ho
        repeat' (first | (cases ho; done) | (injection ho with ho; subst ho; cases hem; done) | split at ho)
      · cases ho
    all_goals (repeat' (first | (cases ho; done) | (injection ho with ho; subst ho; cases hem; done) | (obtain ⟨_, _, e⟩ := opt_map ho; subst e; cases hem; done) | split at ho))
  · cases hem
/-- What makes memory alone: that its block has an address. -/
theorem lateC {i : Nat} {o : Oper} {d : AOper} (hi : ops[i]? = some o) (ht : trOper P n ops o = some d) {E : Emb} {A : Heap} {w : World} {env : AEnv} {a : Act} (hR : Rep E A w) (he : EnvR E env a) (ha : a.tmps.size = n)
    (hlo : d.op.late = true) (hg : d.g = none) {x : (Nat → AV) × Cont} (hm : mkL d.op env = some x) {KK : Act → World → Prop}
    (hn : ∀ g E' w' c b off, A g = none → Rep E' (A.set g x.2) w' → E.Le E' → Same w w' → TV E' (x.1 g) c → (E'.loc g).addr = some (b, off) → KK (a.put o.dst c) w') : wpOpIn (Fr ro) 0 P ops Q i KK a w := by
  cases hem : d.op.empty with
  | false =>
    refine stepC hi ht hR he ha (K := fun v A' => ∃ g, A g = none ∧ v = x.1 g ∧ A' = A.set g x.2) (Kp := fun _ _ => False) (by unfold gC; rw [hg]; exact (mkL_late hm).2 fun g hg => ⟨g, hg, rfl, rfl⟩) ?_ (fun _ _ _ _ _ h => h.elim)
    rintro v A' E' w' c ⟨g, hA, rfl, rfl⟩ hR' hE' hS' hT
    obtain ⟨b, off, hb⟩ := mkL_addr hlo hem hm (hR'.cont g _ (Heap.set_same A g x.2))
    exact hn g E' w' c b off hA hR' hE' hS' hT hb
  | true =>
    obtain ⟨hop, hdst, _, _, _⟩ := trOper_spec ht
    obtain ⟨g1, g2, g3⟩ := guard_ok ht he ha
    obtain ⟨c, w', sz, m1, m2, m3, m4⟩ := emp_run (a := a) hop hem hR hm
    unfold wpOpIn
    rw [hi]
    simp only
    rw [if_pos (g1 hg)]
    refine wpIn_of_wp (trOp_nodefer hop) ?_
    unfold Oper.wp
    rw [m1]
    exact hn E.N _ w' c w.heap.size 0 hR.fresh m2 (E.push_le _) m3 m4 (by rw [Emb.push_loc])
/-- What has run ahead of its turn. -/
structure Pend where
  q : DRow
  g : Nat
  b : Nat
  x : (Nat → AV) × Cont
def pdIn (pd : List Pend) (i : Nat) : Bool := pd.any (fun x => x.q.i == i)
structure PendOK (E0 E : Emb) (env : AEnv) (w : World) (x : Pend) : Prop where
  late : lateQ x.q = true
  lt : x.g < E.N
  lo : E.lo ≤ x.g
  addr : ∃ off, (E.loc x.g).addr = some (x.b, off)
  H : ∃ o, E.H x.b = some o
  H0 : E0.H x.b = none
  rep : RepC E w x.g x.x.2
  dst : ∀ t, x.q.d.o.dst = some t → env t = x.x.1 x.g
  mks : mkL x.q.d.o.op env = some x.x
theorem PendOK.step {E0 E E' : Emb} {A A' : Heap} {env : AEnv} {w w' : World} {x : Pend} (h : PendOK E0 E env w x) (hR : Rep E A w) (hR' : Rep E' A' w') (hE : E.Le E') {d : Option Nat} {v : AV}
    (hd : ∀ t, d = some t → t ∉ x.q.d.o.uses ∧ x.q.d.o.dst ≠ some t) : PendOK E0 E' (put env d v) w' x := by
  obtain ⟨off, ha⟩ := h.addr
  obtain ⟨o, hH⟩ := h.H
  have hl := hE.loc x.g h.lt
  have h' := hE.H _ _ hH
  refine ⟨h.late, Nat.lt_of_lt_of_le h.lt hE.n, by rw [hE.lo]; exact h.lo, ⟨off, by rw [hl]; exact ha⟩, ⟨o, h'⟩, h.H0, ?_, fun t ht => ?_, ?_⟩
  · refine RepC_mono hE h.lt h.rep (fun b' off' e => ?_) (fun b' off' e => ?_)
    · rw [ha] at e; injection e with e; injection e with e1 e2; subst e1
      exact (hR'.hid _ _ h').2.1
    · rw [ha] at e; injection e with e; injection e with e1 e2; subst e1
      rw [(hR'.hid _ _ h').1, (hR.hid _ _ hH).1]
  · rw [put_ne fun e => (hd t e).2 ht]; exact h.dst t ht
  · rw [← h.mks]
    refine mkL_congr fun s hs => put_ne fun e => (hd s e).1 ?_
    simp [AOper.uses, hs]

def unl (listed : Array Bool) (pd : List Pend) (p : DRow) : Bool := !listed.getD p.i true || pdIn pd p.i
structure DInv (P : Program) (n : Nat) (D : List Deferred) (ops : Array Oper) (T : List (List Nat)) (L : List DRow) (K : AEnv → Heap → Prop) (Kp : AV → Heap → Prop) (E0 : Emb) (w0 : World) (listed : Array Bool) (us : List DRow) (pd : List Pend) (env : AEnv) (A : Heap) (E : Emb) (a : Act) (w : World) : Prop where
  hus : us = L.filter (unl listed pd)
  size : listed.size = ops.size
  cl : ∀ i < ops.size, listed.getD i false = true → ∀ j ∈ ancT T i, listed.getD j false = true
  aw : awD P (us.map (·.d)) K Kp env A
  rep : Rep E A w
  env' : EnvR E env a
  le : E0.Le E
  same : Same w0 w
  tmps : a.tmps.size = n
  defers : a.defers = D
  pdl : ∀ x ∈ pd, x.q ∈ L ∧ x.q.i < ops.size ∧ listed.getD x.q.i false = true ∧ PendOK E0 E env w x
  pds : ∀ x ∈ pd, ∀ y ∈ pd, x.q.i ≠ y.q.i → x.b ≠ y.b
def NF (us : List DRow) (pd : List Pend) : Prop := ∀ x, us.find? (fun p => !p.d.fl) = some x → pdIn pd x.i = false

structure CF (ops : Array Oper) (T : List (List Nat)) (L : List DRow) : Prop where
  rel : L.Pairwise (fun p q => relT T p q = true)
  anc : ∀ i < ops.size, cAnc ops T i = true ∧ ∃ p ∈ L, p.i = i
  pre : cPre ops [] L = true
  late : cLate T [] L = true
  use : ∀ q ∈ L, lateQ q = true → ∀ t, q.d.o.dst = some t → (t ∉ q.d.o.op.uses ∧ ∀ e ∈ L, ksHas e.d.ks (some t) = false) ∧ ∀ e ∈ L, ∀ p ∈ L, p.d.o.op.late = true → hasD e.d.ls p.d.o.dst = true → t ∉ p.d.o.op.uses
  fl : ∀ p ∈ L, p.d.fl = p.d.o.op.floats
  keep : cKeep [] L = true
theorem cAll_CF {T : List (List Nat)} {L : List DRow} (hc : cAll ops T L = true) : CF ops T L := by
  simp only [cAll, Bool.and_eq_true, List.all_eq_true, List.mem_range, List.any_eq_true, beq_iff_eq] at hc
  obtain ⟨hrel, hanc, ⟨hpre, hlate, huse, hkeep⟩, hfl⟩ := hc
  refine ⟨relAll_pw hrel, hanc, hpre, hlate, fun q hq hl t ht => ?_, hfl, hkeep⟩
  simp only [cUse, List.all_eq_true, Bool.or_eq_true, Bool.and_eq_true, Bool.not_eq_true'] at huse
  rcases huse q hq with h | ⟨⟨h1, hks⟩, h2⟩
  · rw [hl] at h; cases h
  · rw [ht] at h1 hks
    refine ⟨⟨by simpa [hasD] using h1, fun e he => hks e he⟩, fun e he p hp hpl hpd => ?_⟩
    rcases h2 e he with h | h
    · have : e.d.ls = [] := by simpa using h
      rw [this] at hpd; cases hh : p.d.o.dst <;> rw [hh] at hpd <;> simp [hasD] at hpd
    · rcases h p hp with (h | h) | h
      · rw [hpl] at h; cases h
      · rw [hpd] at h; cases h
      · rw [ht] at h; simpa [hasD] using h
section
variable {T : List (List Nat)} {L : List DRow}
theorem CF.uniq (hC : CF ops T L) {p q : DRow} (hp : p ∈ L) (hq : q ∈ L) (h : p.i = q.i) : p = q := by
  have key : ∀ {l : List DRow}, l.Pairwise (fun p q => relT T p q = true) → ∀ p ∈ l, ∀ q ∈ l, p.i = q.i → p = q := by
    intro l hl
    induction hl with
    | nil => intro p hp; simp at hp
    | cons h1 _ ih =>
      intro p hp q hq e
      rcases List.mem_cons.1 hp with e1 | hp <;> rcases List.mem_cons.1 hq with e2 | hq
      · rw [e1, e2]
      · have := h1 q hq; rw [← e1] at this; simp [relT, e] at this
      · have := h1 p hp; rw [← e2] at this; simp [relT, e] at this
      · exact ih p hp q hq e
  exact key hC.rel p hp q hq h
theorem relT_indep {p q : DRow} (h : relT T p q = true) (hn : (ancT T q.i).contains p.i = false) :
    p.i ≠ q.i ∧ indep q.d.o p.d.o = true ∧ (lateQ q = true ∨ (p.d.fl = true ∧ (q.d.fl = true ∨ rdOK p q = true))) := by
  simp only [relT, hn, Bool.false_or, Bool.and_eq_true, bne_iff_ne, ne_eq, Bool.or_eq_true] at h
  exact ⟨h.1, h.2.1, h.2.2⟩
theorem rdOK_spec {p q : DRow} (h : rdOK p q = true) : p.d.o.op.reads = false ∨ q.d.st = true ∧ (q.d.ks = none ∨ ∃ l ns, q.d.ks = some l ∧ p.d.o.op.rds = some ns ∧ ∀ n ∈ ns, n ∈ l) := by
  simp only [rdOK, Bool.or_eq_true, Bool.not_eq_true', Bool.and_eq_true] at h
  rcases h with h | ⟨h1, h2⟩
  · exact .inl h
  · refine .inr ⟨h1, ?_⟩
    split at h2
    · rename_i hk; exact .inl hk
    · rename_i l hk
      split at h2
      · rename_i ns hn
        refine .inr ⟨l, ns, hk, hn, fun n hn => ?_⟩
        simp only [List.all_eq_true] at h2
        simpa using h2 n hn
      · cases h2
theorem hasD_not {l : List Nat} {d : Option Nat} (h : hasD l d = false) : ∀ t, d = some t → t ∉ l := fun t ht => by
  rw [ht] at h; simpa [hasD] using h
theorem kpAll_spec : ∀ {l : List DRow}, kpAll l = true → l.Pairwise (fun p e => p.d.o.op.reads = true → ∀ t, e.d.o.dst = some t → t ∉ p.d.o.uses) ∧ ∀ p ∈ l, p.d.o.op.reads = true → ∀ t, p.d.o.dst = some t → t ∉ p.d.o.uses
  | [], _ => ⟨.nil, by simp⟩
  | p :: r, h => by
    simp only [kpAll, Bool.and_eq_true, List.all_eq_true] at h
    obtain ⟨h1, h2, h3⟩ := h
    obtain ⟨k1, k2⟩ := kpAll_spec h3
    have one : ∀ e, kp1 p e = true → p.d.o.op.reads = true → ∀ t, e.d.o.dst = some t → t ∉ p.d.o.uses := fun e he hr => by
      simp only [kp1, hr, Bool.not_true, Bool.false_or, Bool.not_eq_true'] at he
      exact hasD_not he
    refine ⟨.cons (fun e he => one e (h2 e he)) k1, fun q hq => ?_⟩
    rcases List.mem_cons.1 hq with rfl | hq
    · exact one q h1
    · exact k2 q hq
theorem cKeep_spec : ∀ {L : List DRow} {seen : List DRow}, cKeep seen L = true → ∀ L1 q L2, L = L1 ++ q :: L2 → q.d.ks ≠ none → kpAll (seen ++ L1) = true
  | [], seen, h, L1, q, L2, e, _ => by simp at e
  | x :: r, seen, h, L1, q, L2, e, hq => by
    simp only [cKeep, Bool.and_eq_true, Bool.or_eq_true, Option.isNone_iff_eq_none] at h
    obtain ⟨h1, h2⟩ := h
    cases L1 with
    | nil =>
      simp at e
      obtain ⟨rfl, rfl⟩ := e
      rw [List.append_nil]
      exact h1.resolve_left hq
    | cons y L1 =>
      simp at e
      obtain ⟨rfl, e⟩ := e
      have := cKeep_spec h2 L1 q L2 e hq
      rwa [List.append_assoc] at this
theorem late_spec {p : DRow} (h : lateQ p = true) : p.d.o.op.late = true ∧ p.d.o.g = none ∧ ∃ t, p.d.o.dst = some t := by
  simp only [lateQ, lateO, Bool.and_eq_true, Option.isNone_iff_eq_none, Option.isSome_iff_exists] at h
  exact ⟨h.1.1, h.1.2, h.2⟩
theorem pdIn_ex {pd : List Pend} {i : Nat} (h : pdIn pd i = true) : ∃ x ∈ pd, x.q.i = i := by
  simpa [pdIn] using h

variable {K : AEnv → Heap → Prop} {Kp : AV → Heap → Prop} {E0 : Emb} {w0 : World} {listed : Array Bool} {us : List DRow} {pd : List Pend} {env : AEnv} {A : Heap} {E : Emb} {a : Act} {w : World}
theorem DInv.pre_listed (hI : DInv P n D ops T L K Kp E0 w0 listed us pd env A E a w) (hC : CF ops T L) {e : DRow} (he : e ∈ us) (hl : listed.getD e.i false = true) : ∃ x ∈ pd, x.q = e := by
  rw [hI.hus] at he
  obtain ⟨heL, hu⟩ := List.mem_filter.1 he
  have hlt : e.i < listed.size := by
    rcases Nat.lt_or_ge e.i listed.size with h | h
    · exact h
    · simp [Array.getElem?_eq_none h] at hl
  rw [← getD_tf hlt] at hl
  simp only [unl, hl, Bool.not_true, Bool.false_or] at hu
  obtain ⟨x, hx, hxi⟩ := pdIn_ex hu
  exact ⟨x, hx, hC.uniq (hI.pdl x hx).1 heL hxi⟩
theorem DInv.fl_of (hI : DInv P n D ops T L K Kp E0 w0 listed us pd env A E a w) (hC : CF ops T L) {x : Pend} (hx : x ∈ pd) : x.q.d.fl = false := by
  have h := hI.pdl x hx
  rw [hC.fl _ h.1]
  exact late_nofl (late_spec h.2.2.2.late).1

/-- Who is ready waits for nothing that stands before it. -/
theorem DInv.noAnc (hI : DInv P n D ops T L K Kp E0 w0 listed us pd env A E a w) (hN : NF us pd) (hC : CF ops T L) {pre post : List DRow} {p : DRow} (hs : us = pre ++ p :: post)
    (hanc : ∀ j ∈ ancT T p.i, listed.getD j false = true) : ∀ e ∈ pre, (ancT T p.i).contains e.i = false := by
  intro e he
  cases hce : (ancT T p.i).contains e.i with
  | false => rfl
  | true =>
    exfalso
    have heu : e ∈ us := by rw [hs]; simp [he]
    have hel := hanc e.i (by simpa using hce)
    obtain ⟨x, hx, rfl⟩ := hI.pre_listed hC heu hel
    have hxf := hI.fl_of hC hx
    obtain ⟨_, hxlt, hxl, hxo⟩ := hI.pdl x hx
    have hxp : pdIn pd x.q.i = true := by simp only [pdIn, List.any_eq_true]; exact ⟨x, hx, by simp⟩
    obtain ⟨pre1, pre2, hp12⟩ := List.append_of_mem he
    have hs2 : us = pre1 ++ x.q :: (pre2 ++ p :: post) := by rw [hs, hp12]; simp
    cases hf : pre1.find? (fun p => !p.d.fl) with
    | none =>
      have := hN x.q (by rw [hs2, List.find?_append, hf]; simp [hxf])
      rw [hxp] at this; cases this
    | some e0 =>
      have h0 := hN e0 (by rw [hs2, List.find?_append, hf]; simp)
      have he0 := List.mem_of_find?_eq_some hf
      have he0f : e0.d.fl = false := by simpa using List.find?_some hf
      have he0u : e0 ∈ us := by rw [hs2]; simp [he0]
      have hnl : listed.getD e0.i false ≠ true := fun h => by
        obtain ⟨y, hy, rfl⟩ := hI.pre_listed hC he0u h
        have : pdIn pd y.q.i = true := by simp only [pdIn, List.any_eq_true]; exact ⟨y, hy, by simp⟩
        rw [this] at h0; cases h0
      obtain ⟨L1, L2, hL, k1, k2, _⟩ := fsplit (by rw [← hI.hus]; exact hs2)
      rcases cLate_spec hC.late L1 x.q L2 hL hxo.late e0 (.inr (k1 e0 he0)) he0f with h | ⟨_, h⟩
      · exact hnl (hI.cl x.q.i hxlt hxl e0.i (by simpa using h))
      · have := h p (k2 p (by simp)) hce
        exact hnl (hanc e0.i (by simpa using this))
/-- Those that have run ahead have nothing to do with who runs now. -/
theorem DInv.disj (hI : DInv P n D ops T L K Kp E0 w0 listed us pd env A E a w) (hN : NF us pd) (hC : CF ops T L) {pre post : List DRow} {p : DRow} (hs : us = pre ++ p :: post) (hpl : listed.getD p.i false = false)
    (hanc : ∀ j ∈ ancT T p.i, listed.getD j false = true) : ∀ x ∈ pd, ∀ t, p.d.o.dst = some t → t ∉ x.q.d.o.uses ∧ x.q.d.o.dst ≠ some t := by
  intro x hx t ht
  obtain ⟨hxL, hxlt, hxl, hxo⟩ := hI.pdl x hx
  have hxu : x.q ∈ us := by
    rw [hI.hus]
    refine List.mem_filter.2 ⟨hxL, ?_⟩
    have : pdIn pd x.q.i = true := by simp only [pdIn, List.any_eq_true]; exact ⟨x, hx, by simp⟩
    simp [unl, this]
  have hpw : us.Pairwise (fun p q => relT T p q = true) := by rw [hI.hus]; exact hC.rel.filter _
  rw [hs, List.pairwise_append] at hpw
  obtain ⟨_, hpost, hcross⟩ := hpw
  rw [hs] at hxu
  rcases List.mem_append.1 hxu with h | h
  · obtain ⟨_, hi, _⟩ := relT_indep (hcross x.q h p (by simp)) (hI.noAnc hN hC hs hanc x.q h)
    obtain ⟨i1, i2, i3⟩ := indep_spec hi
    exact ⟨i1 t ht, i2 t ht⟩
  · rcases List.mem_cons.1 h with e | h
    · rw [e] at hxl; rw [hxl] at hpl; cases hpl
    · have hr := List.rel_of_pairwise_cons hpost h
      have hn : (ancT T x.q.i).contains p.i = false := by
        cases hh : (ancT T x.q.i).contains p.i with
        | false => rfl
        | true => rw [hI.cl x.q.i hxlt hxl p.i (by simpa using hh)] at hpl; cases hpl
      obtain ⟨_, hi, _⟩ := relT_indep hr hn
      obtain ⟨i1, i2, i3⟩ := indep_spec hi
      exact ⟨i3 t ht, fun e => i2 t e ht⟩
/-- The first one in line has run: its turn is now. -/
theorem DInv.turn (hC : CF ops T L) : ∀ (k : Nat) (us : List DRow) (pd : List Pend) (A : Heap) (E : Emb), pd.length ≤ k → DInv P n D ops T L K Kp E0 w0 listed us pd env A E a w →
    ∃ us' pd' A' E', DInv P n D ops T L K Kp E0 w0 listed us' pd' env A' E' a w ∧ NF us' pd'
  | 0, us, pd, A, E, hk, hI => by
    have : pd = [] := List.eq_nil_of_length_eq_zero (by omega)
    subst this
    exact ⟨us, [], A, E, hI, fun x hx => rfl⟩
  | k + 1, us, pd, A, E, hk, hI => by
    cases hf : us.find? (fun p => !p.d.fl) with
    | none => exact ⟨us, pd, A, E, hI, fun x hx => by rw [hf] at hx; cases hx⟩
    | some e =>
      cases hp : pdIn pd e.i with
      | false => exact ⟨us, pd, A, E, hI, fun x hx => by rw [hf] at hx; injection hx with hx; subst hx; exact hp⟩
      | true =>
        obtain ⟨x, hx, hxi⟩ := pdIn_ex hp
        obtain ⟨_, fl, post, hs, hfl⟩ := List.find?_eq_some_iff_append.1 hf
        have heL : e ∈ L := by
          have : e ∈ us := by rw [hs]; simp
          rw [hI.hus] at this; exact (List.mem_filter.1 this).1
        obtain ⟨hxL, hxlt, hxl, hxo⟩ := hI.pdl x hx
        have hxe := hC.uniq hxL heL hxi
        subst hxe
        obtain ⟨hlo, hg, t, ht⟩ := late_spec hxo.late
        obtain ⟨off, ha⟩ := hxo.addr
        obtain ⟨hA, hR'⟩ := hI.rep.thaw ha hxo.H hxo.lt hxo.lo hxo.rep
        have hpre : ∀ e ∈ fl, e.d.fl = true ∧ e.d.o.op.floats = true ∧ indep x.q.d.o e.d.o = true := by
          intro e he
          have hef : e.d.fl = true := by simpa using hfl e he
          have heu : e ∈ us := by rw [hs]; simp [he]
          have heL : e ∈ L := by rw [hI.hus] at heu; exact (List.mem_filter.1 heu).1
          have hnl : (ancT T x.q.i).contains e.i = false := by
            cases hh : (ancT T x.q.i).contains e.i with
            | false => rfl
            | true =>
              exfalso
              obtain ⟨y, hy, rfl⟩ := hI.pre_listed hC heu (hI.cl x.q.i hxlt hxl e.i (by simpa using hh))
              rw [hI.fl_of hC hy] at hef; cases hef
          have hpw : us.Pairwise (fun p q => relT T p q = true) := by rw [hI.hus]; exact hC.rel.filter _
          rw [hs, List.pairwise_append] at hpw
          obtain ⟨_, hi, _⟩ := relT_indep (hpw.2.2 e he x.q (by simp)) hnl
          exact ⟨hef, by rw [← hC.fl e heL]; exact hef, hi⟩
        have haw := hI.aw
        rw [hs] at haw
        simp only [List.map_append, List.map_cons] at haw
        have h2 := pull_late (q := x.q.d) (hI.fl_of hC hx) hg hA (fl.map (·.d)) env (fun e he => by
          obtain ⟨q, hq, rfl⟩ := List.mem_map.1 he
          exact hpre q hq) hxo.mks haw
        rw [ht] at h2
        simp only [put] at h2
        rw [upd_self (hxo.dst t ht), ← List.map_append] at h2
        have hpd : ∀ j, pdIn (pd.filter (fun y => y.q.i != x.q.i)) j = (pdIn pd j && j != x.q.i) := by
          intro j
          simp only [pdIn, List.any_filter]
          rw [Bool.eq_iff_iff]
          simp only [List.any_eq_true, Bool.and_eq_true, bne_iff_ne, ne_eq, beq_iff_eq]
          constructor
          · rintro ⟨y, hy, h1, rfl⟩; exact ⟨⟨y, hy, rfl⟩, h1⟩
          · rintro ⟨⟨y, hy, rfl⟩, h1⟩; exact ⟨y, hy, h1, rfl⟩
        refine DInv.turn hC k (fl ++ post) (pd.filter (fun y => y.q.i != x.q.i)) (A.set x.g x.x.2) (E.thaw x.b) ?_ ⟨?_, hI.size, hI.cl, h2, hR', EnvR_mono0 (E.thaw_le0 _) hI.env', ?_, hI.same, hI.tmps, hI.defers, ?_, ?_⟩
        · have : (pd.filter (fun y => y.q.i != x.q.i)).length < pd.length := by
            rw [List.length_filter_lt_length_iff_exists]
            exact ⟨x, hx, by simp⟩
          omega
        · have hlt : x.q.i < listed.size := by rw [hI.size]; exact hxlt
          have e1 : ∀ q : DRow, unl listed (pd.filter (fun y => y.q.i != x.q.i)) q = (unl listed pd q && q.i != x.q.i) := by
            intro q
            simp only [unl, hpd]
            by_cases hq : q.i = x.q.i
            · rw [hq, getD_tf hlt, hxl]; simp
            · have : (q.i != x.q.i) = true := by simpa using hq
              rw [this, Bool.and_true, Bool.and_true]
          have : L.filter (unl listed (pd.filter (fun y => y.q.i != x.q.i))) = (L.filter (unl listed pd)).filter (fun q => q.i != x.q.i) := by
            rw [List.filter_filter]
            congr 1
            funext q
            rw [e1 q, Bool.and_comm]
          have hpw : us.Pairwise (fun p q => relT T p q = true) := by rw [hI.hus]; exact hC.rel.filter _
          rw [hs, List.pairwise_append] at hpw
          rw [this, ← hI.hus, hs, List.filter_append, List.filter_cons]
          have f1 : fl.filter (fun q => q.i != x.q.i) = fl := List.filter_eq_self.2 fun e he => by
            have := hpw.2.2 e he x.q (by simp)
            simp only [relT, Bool.and_eq_true] at this
            exact this.1
          have f2 : post.filter (fun q => q.i != x.q.i) = post := List.filter_eq_self.2 fun e he => by
            have := List.rel_of_pairwise_cons hpw.2.1 he
            simp only [relT, Bool.and_eq_true, bne_iff_ne, ne_eq] at this
            simpa using fun e => this.1 e.symm
          rw [f1, f2]
          simp
        · refine ⟨hI.le.n, hI.le.loc, hI.le.F, hI.le.lo, fun b o hb => ?_⟩
          have hne : b ≠ x.b := fun e => by subst e; rw [hxo.H0] at hb; cases hb
          simp only [Emb.thaw, if_neg hne]
          exact hI.le.H b o hb
        · intro y hy
          obtain ⟨hy, hne⟩ := List.mem_filter.1 hy
          have hne : y.q.i ≠ x.q.i := by simpa using hne
          obtain ⟨yL, ylt, yl, yo⟩ := hI.pdl y hy
          have hb := hI.pds y hy x hx hne
          refine ⟨yL, ylt, yl, ⟨yo.late, yo.lt, yo.lo, yo.addr, ?_, yo.H0, ?_, yo.dst, yo.mks⟩⟩
          · obtain ⟨o, ho⟩ := yo.H
            exact ⟨o, by simp only [Emb.thaw, if_neg hb]; exact ho⟩
          · obtain ⟨o, ho⟩ := yo.H
            obtain ⟨off', ha'⟩ := yo.addr
            refine RepC_mono0 (E.thaw_le0 _) yo.lt yo.rep (fun b' off2 e => ?_) fun _ _ _ => rfl
            rw [ha'] at e; injection e with e; injection e with e1 e2; subst e1
            exact (hI.rep.hid _ _ ho).2.1
        · intro y hy z hz
          exact hI.pds y (List.mem_filter.1 hy).1 z (List.mem_filter.1 hz).1

theorem dwp (hC : CF ops T L) (hL : ∀ p ∈ L, ∃ o, ops[p.i]? = some o ∧ trOper P n ops o = some p.d.o)
    (hK : ∀ env A E a w, K env A → Rep E A w → EnvR E env a → E0.Le E → Same w0 w → a.tmps.size = n → a.defers = D → Q .normal a w)
    (hKp : ∀ v env A E a w c, Kp v A → Rep E A w → EnvR E env a → E0.Le E → Same w0 w → a.tmps.size = n → a.defers = D → TV E v c → Q (.panic [{ v := c, recovered := false }]) a w) :
    ∀ (fuel : Nat) (listed : Array Bool) (us : List DRow) (pd : List Pend) (env : AEnv) (A : Heap) (E : Emb) (a : Act) (w : World),
      (L.filter (fun p => !listed.getD p.i true)).length ≤ fuel → NF us pd → DInv P n D ops T L K Kp E0 w0 listed us pd env A E a w → wpAnyIn (Fr ro) 0 P .any ops Q fuel listed a w := by
  have done : ∀ (listed : Array Bool) (us : List DRow) (pd : List Pend) (env : AEnv) (A : Heap) (E : Emb) (a : Act) (w : World), L.filter (fun p => !listed.getD p.i true) = [] → NF us pd →
      DInv P n D ops T L K Kp E0 w0 listed us pd env A E a w → Region.ready .any ops listed = [] ∧ Q .normal a w := by
    intro listed us pd env A E a w hul hN hI
    have hus : us = [] := by
      cases hu : us with
      | nil => rfl
      | cons e r =>
        exfalso
        have heu : e ∈ us := by rw [hu]; simp
        have heL : e ∈ L := by rw [hI.hus] at heu; exact (List.mem_filter.1 heu).1
        have hun : unl listed pd e = true := by rw [hI.hus] at heu; exact (List.mem_filter.1 heu).2
        have hl : listed.getD e.i true = true := by
          cases hh : listed.getD e.i true with
          | true => rfl
          | false =>
            have : e ∈ L.filter (fun p => !listed.getD p.i true) := List.mem_filter.2 ⟨heL, by rw [hh]; rfl⟩
            rw [hul] at this; simp at this
        simp only [unl, hl, Bool.not_true, Bool.false_or] at hun
        obtain ⟨x, hx, hxi⟩ := pdIn_ex hun
        have hxe := hC.uniq (hI.pdl x hx).1 heL hxi
        have hf := hI.fl_of hC hx
        rw [hxe] at hf
        have := hN e (by rw [hu]; simp [hf])
        rw [this] at hun; cases hun
    have haw := hI.aw
    rw [hus] at haw
    refine ⟨?_, hK env A E a w haw hI.rep hI.env' hI.le hI.same hI.tmps hI.defers⟩
    cases hr : Region.ready .any ops listed with
    | nil => rfl
    | cons i r =>
      exfalso
      have hm : i ∈ Region.ready .any ops listed := by rw [hr]; simp
      obtain ⟨hi, o, ho, _⟩ := mem_ready.1 hm
      have hlt := (Array.getElem?_eq_some_iff.1 ho).1
      obtain ⟨p, hp, hpi⟩ := (hC.anc i hlt).2
      have : p ∈ L.filter (fun p => !listed.getD p.i true) := List.mem_filter.2 ⟨hp, by rw [hpi, hi]; rfl⟩
      rw [hul] at this
      simp at this
  intro fuel
  induction fuel with
  | zero =>
    intro listed us pd env A E a w hlen hN hI
    exact done listed us pd env A E a w (List.length_eq_zero_iff.1 (by omega)) hN hI
  | succ fuel ih =>
    intro listed us pd env A E a w hlen hN hI
    refine ⟨fun hr => ?_, fun i him => ?_⟩
    · cases hu : L.filter (fun p => !listed.getD p.i true) with
      | nil => exact (done listed us pd env A E a w hu hN hI).2
      | cons p us' =>
        exfalso
        obtain ⟨L1, L2, hLL, hL1, hpf, _⟩ := List.filter_eq_cons_iff.1 hu
        obtain ⟨o, ho, hh⟩ := cPre_spec hC.pre L1 p L2 hLL
        have : p.i ∈ Region.ready .any ops listed := by
          refine mem_ready.2 ⟨by simpa using hpf, o, ho, fun e hem hb => ?_⟩
          rcases hh e hem hb with h3 | ⟨q, hq, hqe⟩
          · simp at h3
          · have := hL1 q hq
            obtain ⟨oq, hoq, _⟩ := hL q (by rw [hLL]; simp [hq])
            have hlt := (Array.getElem?_eq_some_iff.1 hoq).1
            have hsz := hI.size
            rw [← hqe, ← getD_tf (by omega)]
            simpa using this
        rw [hr] at this
        simp at this
    · obtain ⟨hi, o, ho, haf⟩ := mem_ready.1 him
      have hsz := hI.size
      have hlt := (Array.getElem?_eq_some_iff.1 ho).1
      obtain ⟨p, hp, hpi⟩ := (hC.anc i hlt).2
      have hpl : listed.getD p.i false = false := by rw [hpi, ← getD_tf (by omega)]; exact hi
      have hpu : p ∈ us := by rw [hI.hus]; exact List.mem_filter.2 ⟨hp, by simp [unl, hpi, hi]⟩
      obtain ⟨pre, post, hsplit⟩ := List.append_of_mem hpu
      have hancL : ∀ j ∈ ancT T p.i, listed.getD j false = true := by
        rw [hpi]
        intro j hj
        have h1 := (hC.anc i hlt).1
        simp only [cAnc, ho, List.all_eq_true, List.any_eq_true, Bool.and_eq_true, Bool.or_eq_true, beq_iff_eq] at h1
        obtain ⟨e, hem, hb, he⟩ := h1 j hj
        have hel := haf e (by simpa using hem) hb
        have hes : e.on < ops.size := by
          rw [← hsz]
          rcases Nat.lt_or_ge e.on listed.size with h' | h'
          · exact h'
          · simp [Array.getElem?_eq_none h'] at hel
        rcases he with he | he
        · rw [← he]; exact hel
        · exact hI.cl e.on hes hel j (by simpa using he)
      have husub : us.Pairwise (fun p q => relT T p q = true) := by rw [hI.hus]; exact hC.rel.filter _
      rw [hsplit, List.pairwise_append] at husub
      obtain ⟨_, hpost, hcross⟩ := husub
      have hnoA := hI.noAnc hN hC hsplit hancL
      have hdisj := hI.disj hN hC hsplit hpl hancL
      have hinU : ∀ e ∈ us, e ∈ L := fun e he => by rw [hI.hus] at he; exact (List.mem_filter.1 he).1
      have hpreR : ∀ e ∈ pre, e.i ≠ i ∧ indep p.d.o e.d.o = true ∧ (lateQ p = true ∨ (e.d.fl = true ∧ e.d.o.op.floats = true ∧ (p.d.fl = true ∨ rdOK e p = true))) := by
        intro e hem
        obtain ⟨h1, h2, h3⟩ := relT_indep (hcross e hem p (by simp)) (hnoA e hem)
        refine ⟨by rw [← hpi]; exact h1, h2, h3.imp id fun ⟨a, b⟩ => ⟨a, ?_, b⟩⟩
        rw [← hC.fl e (hinU e (by rw [hsplit]; simp [hem]))]; exact a
      have hpostR : ∀ e ∈ post, e.i ≠ i := fun e hem hei => by
        have h1 := List.rel_of_pairwise_cons hpost hem
        simp [relT, hpi, hei] at h1
      obtain ⟨o', ho', htr⟩ := hL p hp
      rw [hpi, ho] at ho'
      injection ho' with ho'; subst ho'
      have hpn : pdIn pd i = false := by
        cases hh : pdIn pd i with
        | false => rfl
        | true =>
          obtain ⟨x, hx, hxi⟩ := pdIn_ex hh
          have h1 := (hI.pdl x hx).2.2.1
          rw [hxi, ← hpi, hpl] at h1; cases h1
      have hcl' : ∀ k < ops.size, (listed.setIfInBounds i true).getD k false = true → ∀ j ∈ ancT T k, (listed.setIfInBounds i true).getD j false = true := by
        intro k hk hkl j hj
        by_cases hki : k = i
        · subst hki; exact getD_set_true (hancL j (by rw [hpi]; exact hj))
        · rw [getD_set_ne false (Ne.symm hki)] at hkl
          exact getD_set_true (hI.cl k hk hkl j hj)
      have hset : ∀ q : DRow, (!(listed.setIfInBounds i true).getD q.i true) = ((!listed.getD q.i true) && q.i != i) := by
        intro q
        by_cases hqi : q.i = i
        · rw [hqi]
          have : i < listed.size := by omega
          simp [this]
        · rw [getD_set_ne true (Ne.symm hqi)]; simp [hqi]
      have hlen' : (L.filter (fun p => !(listed.setIfInBounds i true).getD p.i true)).length ≤ fuel := by
        have e1 : L.filter (fun p => !(listed.setIfInBounds i true).getD p.i true) = (L.filter (fun p => !listed.getD p.i true)).filter (fun q => q.i != i) := by
          rw [List.filter_filter]
          congr 1
          funext q
          rw [hset q, Bool.and_comm]
        have : ((L.filter (fun p => !listed.getD p.i true)).filter (fun q => q.i != i)).length < (L.filter (fun p => !listed.getD p.i true)).length := by
          rw [List.length_filter_lt_length_iff_exists]
          exact ⟨p, List.mem_filter.2 ⟨hp, by rw [hpi, hi]; rfl⟩, by simp [hpi]⟩
        rw [e1]; omega
      have hpdl : ∀ {E' : Emb} {A' : Heap} {w' : World} {v : AV}, Rep E' A' w' → E.Le E' → ∀ x ∈ pd, x.q ∈ L ∧ x.q.i < ops.size ∧ (listed.setIfInBounds i true).getD x.q.i false = true ∧ PendOK E0 E' (put env p.d.o.dst v) w' x := by
        intro E' A' w' v hR' hE' x hx
        obtain ⟨k1, k2, k3, k4⟩ := hI.pdl x hx
        exact ⟨k1, k2, getD_set_true k3, k4.step hI.rep hR' hE' (hdisj x hx)⟩
      have haw := hI.aw
      have hmap : us.map (·.d) = pre.map (·.d) ++ p.d :: post.map (·.d) := by rw [hsplit]; simp
      rw [hmap] at haw
      obtain ⟨_, hdst, hinb, _, _⟩ := trOper_spec htr
      cases hlq : lateQ p with
      | true =>
        obtain ⟨hlo, hg, t, ht⟩ := late_spec hlq
        have hpf : p.d.fl = false := by rw [hC.fl p hp]; exact late_nofl hlo
        have hmS : (mkL p.d.o.op env).isSome = true := by
          cases hsure : p.d.o.op.sure with
          | true => cases hop : p.d.o.op <;> rw [hop] at hsure <;> simp only [AOp.sure, Bool.false_eq_true] at hsure; rfl
          | false =>
            refine awD_late hpf hlo hg ht (pre.map (·.d)) env A (fun e he => ?_) haw
            obtain ⟨q, hq, rfl⟩ := List.mem_map.1 he
            cases hqf : q.d.fl with
            | true =>
              refine .inl ⟨rfl, ?_, (hpreR q hq).2.1⟩
              rw [← hC.fl q (hinU q (by rw [hsplit]; simp [hq]))]; exact hqf
            | false =>
              refine .inr ⟨rfl, ?_⟩
              obtain ⟨L1, L2, hLL, k1, k2, _⟩ := fsplit (by rw [← hI.hus]; exact hsplit)
              rcases cLate_spec hC.late L1 p L2 hLL hlq q (.inr (k1 q hq)) hqf with h | ⟨h, _⟩
              · rw [hnoA q hq] at h; cases h
              · rw [hsure, Bool.false_or] at h
                exact h
        obtain ⟨x, hm⟩ := Option.isSome_iff_exists.1 hmS
        refine lateC ho htr hI.rep hI.env' hI.tmps hlo hg hm ?_
        intro g E' w' c b off hA hR' hE' hS' hT ha
        have hset' := Heap.set_same A g x.2
        obtain ⟨oo, hn, hRh⟩ := hR'.hide hA ha
        have hEh := hE'.trans (Emb.hide_le E' oo hn)
        obtain ⟨p1, p2, p3⟩ := put_ok (hI.env'.mono hEh) hI.tmps hinb (TV_mono0 (Emb.hide_le0 E' b oo) hT)
        have hout : ∀ s ∈ p.d.o.op.uses, put env p.d.o.dst (x.1 g) s = env s := fun s hs => by
          rw [ht]; simp only [put, upd]; rw [if_neg]; rintro rfl
          exact (hC.use p hp hlq s ht).1.1 hs
        have hpd' : ∀ j, j ≠ i → pdIn (⟨p, g, b, x⟩ :: pd) j = pdIn pd j := fun j hj => by
          simp only [pdIn, List.any_cons, hpi]
          have : (i == j) = false := by simpa using Ne.symm hj
          rw [this, Bool.false_or]
        have hInew : DInv P n D ops T L K Kp E0 w0 (listed.setIfInBounds i true) us (⟨p, g, b, x⟩ :: pd) (put env p.d.o.dst (x.1 g)) A (E'.hide b oo) (a.put o.dst c) w' := by
          refine ⟨?_, by simpa using hsz, hcl', ?_, hRh, by rw [hdst]; exact p1, hI.le.trans hEh, hI.same.trans hS', p2, p3.trans hI.defers, ?_, ?_⟩
          · rw [hI.hus]
            refine List.filter_congr fun q hq => ?_
            simp only [unl]
            by_cases hqi : q.i = i
            · have h1 : pdIn (⟨p, g, b, x⟩ :: pd) q.i = true := by simp [pdIn, hpi, hqi]
              rw [h1, hqi, hi]; simp
            · rw [hpd' q.i hqi, hset q]
              have : (q.i != i) = true := by simpa using hqi
              rw [this, Bool.and_true]
          · rw [hmap, ht]
            refine awD_put hpf (late_nofl hlo) hg ht (hC.use p hp hlq t ht).1.1 ((hC.use p hp hlq t ht).1.2 p hp) (pre.map (·.d)) env A (fun e he => ?_) (fun e he e' he' hel hed => ?_) haw
            · obtain ⟨q, hq, rfl⟩ := List.mem_map.1 he
              obtain ⟨i1, i2, i3⟩ := indep_spec (hpreR q hq).2.1
              exact ⟨hC.fl q (hinU q (by rw [hsplit]; simp [hq])), i1 t ht, i2 t ht, (hC.use p hp hlq t ht).1.2 q (hinU q (by rw [hsplit]; simp [hq]))⟩
            · rw [← List.map_cons (f := fun (p : DRow) => p.d), ← List.map_append, ← hsplit] at he he'
              obtain ⟨q, hq, rfl⟩ := List.mem_map.1 he
              obtain ⟨q', hq', rfl⟩ := List.mem_map.1 he'
              exact (hC.use p hp hlq t ht).2 q (hinU q hq) q' (hinU q' hq') hel hed
          · intro y hy
            rcases List.mem_cons.1 hy with rfl | hy
            · refine ⟨hp, by rw [hpi]; exact hlt, by rw [hpi]; simp [hsz, hlt], ⟨hlq, hR'.lt g _ hset', hR'.low g _ hset', ⟨off, ha⟩, ⟨oo, by simp [Emb.hide]⟩, ?_, ?_, fun s hs => ?_, by rw [mkL_congr hout]; exact hm⟩⟩
              · cases hh : E0.H b with
                | none => rfl
                | some z => have := (hI.le.trans hE').H b z hh; rw [hn] at this; cases this
              · exact RepC_mono0 (Emb.hide_le0 E' b oo) (hR'.lt g _ hset') (hR'.cont g _ hset') (fun b off ha => (hR'.blk hset' ha).2) fun _ _ _ => rfl
              · have hs' : p.d.o.dst = some s := hs
                rw [hs']; simp [put, upd]
            · exact hpdl hRh hEh y hy
          · have new : ∀ y ∈ pd, y.b ≠ b := fun y hy e => by
              obtain ⟨o, ho⟩ := (hI.pdl y hy).2.2.2.H
              rw [e] at ho
              have := hE'.H b o ho
              rw [hn] at this; cases this
            intro y hy z hz hne
            rcases List.mem_cons.1 hy with rfl | hy <;> rcases List.mem_cons.1 hz with rfl | hz
            · exact absurd rfl hne
            · exact fun e => new z hz e.symm
            · exact new y hy
            · exact hI.pds y hy z hz hne
        obtain ⟨us', pd', A', E2, hI', hN'⟩ := DInv.turn hC _ us _ A _ (Nat.le_refl _) hInew
        exact ih _ us' pd' _ A' E2 _ w' hlen' hN' hI'
      | false =>
        have hpreR' : ∀ e ∈ pre, e.d.fl = true ∧ e.d.o.op.floats = true ∧ indep p.d.o e.d.o = true ∧ (p.d.fl = true ∨ rdOK e p = true) := fun e he => by
          obtain ⟨_, h2, h3 | ⟨h3, h4, h5⟩⟩ := hpreR e he
          · rw [hlq] at h3; cases h3
          · exact ⟨h3, h4, h2, h5⟩
        have hus' : pre ++ post = L.filter (unl (listed.setIfInBounds i true) pd) := by
          have e0 : ∀ q : DRow, unl (listed.setIfInBounds i true) pd q = (unl listed pd q && q.i != i) := by
            intro q
            simp only [unl, hset q]
            by_cases hqi : q.i = i
            · rw [hqi, hpn]; simp
            · have : (q.i != i) = true := by simpa using hqi
              rw [this, Bool.and_true, Bool.and_true]
          have : L.filter (unl (listed.setIfInBounds i true) pd) = (L.filter (unl listed pd)).filter (fun q => q.i != i) := by
            rw [List.filter_filter]
            congr 1
            funext q
            rw [e0 q, Bool.and_comm]
          rw [this, ← hI.hus, hsplit, List.filter_append, List.filter_cons]
          have e1 : pre.filter (fun q => q.i != i) = pre := List.filter_eq_self.2 fun e he => by simpa using (hpreR e he).1
          have e2 : post.filter (fun q => q.i != i) = post := List.filter_eq_self.2 fun e he => by simpa using hpostR e he
          rw [e1, e2]
          simp [hpi]
        cases hpf : p.d.fl with
        | true =>
          have hpo : p.d.o.op.floats = true := by rw [← hC.fl p hp]; exact hpf
          obtain ⟨v0, G, h2⟩ := pull_fl hpf hpo (pre.map (·.d)) env (fun e he => by
            obtain ⟨q, hq, rfl⟩ := List.mem_map.1 he
            obtain ⟨a1, a2, a3, _⟩ := hpreR' q hq
            exact ⟨a1, a2, a3⟩) haw
          refine stepF ho htr hpo hI.rep hI.env' hI.tmps (G _ rfl) (fun c w' hR' hS' hT => ?_)
          obtain ⟨p1, p2, p3⟩ := put_ok hI.env' hI.tmps hinb hT
          have p1 : EnvR E (put env p.d.o.dst v0) (a.put o.dst c) := by rw [hdst]; exact p1
          obtain ⟨us', pd', A', E2, hI', hN'⟩ := DInv.turn hC _ (pre ++ post) pd A E (Nat.le_refl _)
            (⟨hus', by simpa using hsz, hcl', by rw [List.map_append]; exact h2, hR', p1, hI.le, hI.same.trans hS', p2, p3.trans hI.defers, hpdl hR' (Emb.Le.refl E), hI.pds⟩ : DInv P n D ops T L K Kp E0 w0 (listed.setIfInBounds i true) (pre ++ post) pd (put env p.d.o.dst v0) A E (a.put o.dst c) w')
          exact ih _ us' pd' _ A' E2 _ w' hlen' hN' hI'
        | false =>
          have hpo : p.d.o.op.floats = false := by rw [← hC.fl p hp]; exact hpf
          obtain ⟨envx, _, h2⟩ := pull_ch hpf hpo (pre.map (·.d)) env (fun e he => by
            obtain ⟨q, hq, rfl⟩ := List.mem_map.1 he
            obtain ⟨a1, a2, a3, a4⟩ := hpreR' q hq
            exact ⟨a1, a2, a3, rdOK_spec (by rw [hpf] at a4; simpa using a4)⟩) (fun hks => by
              obtain ⟨L1, L2, hLL, _, _, hflt⟩ := fsplit (by rw [← hI.hus]; exact hsplit)
              obtain ⟨k1, k2⟩ := kpAll_spec (cKeep_spec hC.keep L1 p L2 hLL hks)
              rw [List.nil_append] at k1 k2
              refine ⟨?_, fun e he => ?_⟩
              · rw [List.pairwise_map, hflt]; exact k1.filter _
              · obtain ⟨q, hq, rfl⟩ := List.mem_map.1 he
                rw [hflt] at hq
                exact k2 q (List.mem_filter.1 hq).1) haw
          refine stepC ho htr hI.rep hI.env' hI.tmps h2 (fun v A' E' w' c hk hR' hE' hS' hT => ?_) (fun v A' E' w' c hk hR' hE' hS' hT => hKp v env A' E' a w' c hk hR' (hI.env'.mono hE') (hI.le.trans hE') (hI.same.trans hS') hI.tmps hI.defers hT)
          obtain ⟨p1, p2, p3⟩ := put_ok (hI.env'.mono hE') hI.tmps hinb hT
          have p1 : EnvR E' (put env p.d.o.dst v) (a.put o.dst c) := by rw [hdst]; exact p1
          obtain ⟨us', pd', A2, E2, hI', hN'⟩ := DInv.turn hC _ (pre ++ post) pd A' E' (Nat.le_refl _)
            (⟨hus', by simpa using hsz, hcl', by rw [List.map_append]; exact hk.2, hR', p1, hI.le.trans hE', hI.same.trans hS', p2, p3.trans hI.defers, hpdl hR' hE', hI.pds⟩ : DInv P n D ops T L K Kp E0 w0 (listed.setIfInBounds i true) (pre ++ post) pd (put env p.d.o.dst v) A' E' (a.put o.dst c) w')
          exact ih _ us' pd' _ A2 E2 _ w' hlen' hN' hI'
end

theorem trD_ok (hm : P.follows .mixedOrders = true) {ds : List DOp} (ht : trD P n ops = some ds) {K : AEnv → Heap → Prop} {Kp : AV → Heap → Prop} {E0 : Emb} {w0 : World}
    (hK : ∀ env A E a w, K env A → Rep E A w → EnvR E env a → E0.Le E → Same w0 w → a.tmps.size = n → a.defers = D → Q .normal a w)
    (hKp : ∀ v env A E a w c, Kp v A → Rep E A w → EnvR E env a → E0.Le E → Same w0 w → a.tmps.size = n → a.defers = D → TV E v c → Q (.panic [{ v := c, recovered := false }]) a w)
    {env : AEnv} {A : Heap} {E : Emb} {a : Act} {w : World} (h : awD P ds K Kp env A) (hR : Rep E A { w with drawn := w.drawn + 1 }) (he : EnvR E env a) (hE : E0.Le E) (hS : Same w0 { w with drawn := w.drawn + 1 }) (ha : a.tmps.size = n) (hd : a.defers = D) {id : Nat} :
    (Code.region id ops true).wpIn (Fr ro) 0 P Q a w := by
  unfold trD at ht
  split at ht
  · rename_i aops hao
    split at ht
    · rename_i L hLr
      injection ht with ht; subst ht
      obtain ⟨is, hrows, hc, hlen⟩ := pickL_spec _ _ hLr
      have hL : ∀ p ∈ L, ∃ o, ops[p.i]? = some o ∧ trOper P n ops o = some p.d.o := fun p hp => by
        obtain ⟨o, h1, h2⟩ := trOpers_get _ _ hao p.i p.d.o (rowsOf_get _ _ _ hrows p hp)
        exact ⟨o, by simpa using h1, h2⟩
      refine wpIn_region_any hm ?_
      refine dwp (cAll_CF hc) hL hK hKp ops.size _ L [] env A E a _ ?_ (fun x _ => rfl) ⟨?_, by simp, ?_, h, hR, he, hE, hS, ha, hd, fun x hx => by simp at hx, fun x hx => by simp at hx⟩
      · exact Nat.le_trans (List.length_filter_le _ _) hlen
      · rw [eq_comm, List.filter_eq_self]
        intro p hp
        obtain ⟨o, ho, _⟩ := hL p hp
        have := (Array.getElem?_eq_some_iff.1 ho).1
        simp [unl, this]
      · intro i hi h1
        simp [hi] at h1
    · cases ht
  · cases ht
end
end AVL

/- A region whose order is open, in whatever order: what holds after some of its operations. -/
namespace AVL
open Go
set_option linter.unusedSimpArgs false
set_option linter.unusedVariables false

def aftOf (o : Oper) : List Nat := (o.after.toList.filter (Region.binds .any)).map (·.on)
def setL (l : Nat → Bool) (i : Nat) : Nat → Bool := fun j => if j = i then true else l j
def gCA (P : Program) (o : AOper) (env : AEnv) (A : Heap) (K Kp : AV → Heap → Prop) : Prop := gC P o env A K Kp
def awA (P : Program) (ops : List (AOper × List Nat)) (K : AEnv → Heap → Prop) (Kp : AV → Heap → Prop) (env : AEnv) (A : Heap) : Prop :=
  ∃ I : (Nat → Bool) → AEnv → Heap → Prop, I (fun _ => false) env A ∧
    (∀ l env A, I l env A → ∀ i p, ops[i]? = some p → l i = false → (∀ j ∈ p.2, l j = true) → gC P p.1 env A (fun v A' => I (setL l i) (put env p.1.dst v) A') Kp) ∧
    ∀ l env A, I l env A → (∀ i < ops.length, l i = true) → K env A
def sortedA : Nat → List (AOper × List Nat) → Bool
  | _, [] => true
  | i, p :: r => p.2.all (fun j => decide (j < i)) && sortedA (i + 1) r
def zipA : List AOper → List Oper → List (AOper × List Nat)
  | a :: r, o :: s => (a, aftOf o) :: zipA r s
  | _, _ => []
def trA (P : Program) (n : Nat) (ops : Array Oper) : Option (List (AOper × List Nat)) :=
  match trOpers P n ops ops.toList with
  | some aops => if sortedA 0 (zipA aops ops.toList) = true then some (zipA aops ops.toList) else none
  | none => none

section
variable {P : Program} {D : List Deferred} {n : Nat} {ops : Array Oper} {Q : Exit → Act → World → Prop} {ro : Option Nat}
theorem zipA_get {ops0 : Array Oper} : ∀ (l : List Oper) (aops : List AOper), trOpers P n ops0 l = some aops → (zipA aops l).length = l.length ∧ ∀ (i : Nat) (o : Oper), l[i]? = some o → ∃ ao, (zipA aops l)[i]? = some (ao, aftOf o) ∧ trOper P n ops0 o = some ao
  | [], aops, h => by
    simp only [trOpers] at h; injection h with h; subst h
    exact ⟨rfl, fun i o hi => by simp at hi⟩
  | x :: r, aops, h => by
    simp only [trOpers] at h
    split at h
    · rename_i a l h1 h2
      injection h with h; subst h
      obtain ⟨k1, k2⟩ := zipA_get r l h2
      refine ⟨by simp [zipA, k1], fun i o hi => ?_⟩
      cases i with
      | zero => simp at hi; subst hi; exact ⟨a, by simp [zipA], h1⟩
      | succ i => simp at hi; obtain ⟨ao, h3, h4⟩ := k2 i o hi; exact ⟨ao, by simpa [zipA] using h3, h4⟩
    · cases h
theorem sortedA_get : ∀ (k : Nat) (l : List (AOper × List Nat)), sortedA k l = true → ∀ i p, l[i]? = some p → ∀ j ∈ p.2, j < k + i
  | k, [], h, i, p, hi => by simp at hi
  | k, q :: r, h, i, p, hi => by
    simp only [sortedA, Bool.and_eq_true, List.all_eq_true, decide_eq_true_eq] at h
    cases i with
    | zero => simp at hi; subst hi; exact h.1
    | succ i =>
      simp at hi
      intro j hj
      have := sortedA_get (k + 1) r h.2 i p hi j hj
      omega
theorem trA_ok (hm : P.follows .mixedOrders = true) {ds : List (AOper × List Nat)} (ht : trA P n ops = some ds) {K : AEnv → Heap → Prop} {Kp : AV → Heap → Prop} {E0 : Emb} {w0 : World}
    (hK : ∀ env A E a w, K env A → Rep E A w → EnvR E env a → E0.Le E → Same w0 w → a.tmps.size = n → a.defers = D → Q .normal a w)
    (hKp : ∀ v env A E a w c, Kp v A → Rep E A w → EnvR E env a → E0.Le E → Same w0 w → a.tmps.size = n → a.defers = D → TV E v c → Q (.panic [{ v := c, recovered := false }]) a w)
    {env : AEnv} {A : Heap} {E : Emb} {a : Act} {w : World} (h : awA P ds K Kp env A) (hR : Rep E A { w with drawn := w.drawn + 1 }) (he : EnvR E env a) (hE : E0.Le E) (hS : Same w0 { w with drawn := w.drawn + 1 }) (ha : a.tmps.size = n) (hd : a.defers = D) {id : Nat} :
    (Code.region id ops true).wpIn (Fr ro) 0 P Q a w := by
  unfold trA at ht
  split at ht
  · rename_i aops hao
    split at ht
    · rename_i hs
      injection ht with ht; subst ht
      obtain ⟨hlen, hget⟩ := zipA_get _ _ hao
      have hsort := sortedA_get 0 _ hs
      obtain ⟨I, h0, hst, hfin⟩ := h
      refine wpIn_region_any hm ?_
      have getO : ∀ {i : Nat} {o : Oper}, ops[i]? = some o → ∃ ao, (zipA aops ops.toList)[i]? = some (ao, aftOf o) ∧ trOper P n ops o = some ao := fun {i o} ho => hget i o (by simpa using ho)
      have all : ∀ listed : Array Bool, listed.size = ops.size → Region.ready .any ops listed = [] → ∀ i, i < ops.size → listed.getD i false = true := by
        intro listed hsz hr i
        induction i using Nat.strongRecOn with
        | ind i ih =>
        intro hi
        obtain ⟨o, ho⟩ : ∃ o, ops[i]? = some o := ⟨_, Array.getElem?_eq_getElem hi⟩
        obtain ⟨ao, hz, _⟩ := getO ho
        cases hl : listed.getD i false with
        | true => rfl
        | false =>
          exfalso
          have : i ∈ Region.ready .any ops listed := by
            refine mem_ready.2 ⟨by rw [getD_tf (by omega)]; exact hl, o, ho, fun e hem hb => ?_⟩
            have hj := hsort i _ hz e.on (List.mem_map.2 ⟨e, List.mem_filter.2 ⟨by simpa using hem, hb⟩, rfl⟩)
            exact ih e.on (by omega) (by omega)
          rw [hr] at this; simp at this
      have go : ∀ (fuel : Nat) (listed : Array Bool) (env : AEnv) (A : Heap) (E : Emb) (a : Act) (w : World), listed.size = ops.size → ((List.range ops.size).filter (fun i => !listed.getD i false)).length ≤ fuel →
          I (fun i => listed.getD i false) env A → Rep E A w → EnvR E env a → E0.Le E → Same w0 w → a.tmps.size = n → a.defers = D → wpAnyIn (Fr ro) 0 P .any ops Q fuel listed a w := by
        intro fuel
        have fin : ∀ (listed : Array Bool) (env : AEnv) (A : Heap) (E : Emb) (a : Act) (w : World), listed.size = ops.size → Region.ready .any ops listed = [] →
            I (fun i => listed.getD i false) env A → Rep E A w → EnvR E env a → E0.Le E → Same w0 w → a.tmps.size = n → a.defers = D → Q .normal a w := by
          intro listed env A E a w hsz hr hI hR he hE hS ha hd
          refine hK env A E a w (hfin _ env A hI fun i hi => ?_) hR he hE hS ha hd
          rw [hlen] at hi
          exact all listed hsz hr i (by simpa using hi)
        induction fuel with
        | zero =>
          intro listed env A E a w hsz hc hI hR he hE hS ha hd
          have hr : Region.ready .any ops listed = [] := by
            cases hr : Region.ready .any ops listed with
            | nil => rfl
            | cons i r =>
              exfalso
              have hm : i ∈ Region.ready .any ops listed := by rw [hr]; simp
              obtain ⟨hi, o, ho, _⟩ := mem_ready.1 hm
              have hlt := (Array.getElem?_eq_some_iff.1 ho).1
              have hnil : (List.range ops.size).filter (fun i => !listed.getD i false) = [] := List.length_eq_zero_iff.1 (by omega)
              have : i ∈ (List.range ops.size).filter (fun i => !listed.getD i false) := List.mem_filter.2 ⟨by simpa using hlt, by rw [← getD_tf (by omega), hi]; rfl⟩
              rw [hnil] at this; simp at this
          exact ⟨hr, fin listed env A E a w hsz hr hI hR he hE hS ha hd⟩
        | succ fuel ih =>
          intro listed env A E a w hsz hc hI hR he hE hS ha hd
          refine ⟨fun hr => fin listed env A E a w hsz hr hI hR he hE hS ha hd, fun i him => ?_⟩
          obtain ⟨hi, o, ho, haf⟩ := mem_ready.1 him
          have hlt := (Array.getElem?_eq_some_iff.1 ho).1
          obtain ⟨ao, hz, htr⟩ := getO ho
          have hi' : listed.getD i false = false := by rw [← getD_tf (by omega)]; exact hi
          have G := hst _ env A hI i _ hz hi' (fun j hj => by
            obtain ⟨e, hem, rfl⟩ := List.mem_map.1 hj
            obtain ⟨h1, h2⟩ := List.mem_filter.1 hem
            exact haf e (by simpa using h1) h2)
          obtain ⟨_, hdst, hinb, _, _⟩ := trOper_spec htr
          have hset : setL (fun i => listed.getD i false) i = fun j => (listed.setIfInBounds i true).getD j false := by
            funext j
            by_cases hj : j = i
            · subst hj
              have : j < listed.size := by omega
              simp [setL, this]
            · simp only [setL, if_neg hj]
              rw [getD_set_ne false (Ne.symm hj)]
          refine stepC ho htr hR he ha G (fun v A' E' w' c hk hR' hE' hS' hT => ?_) (fun v A' E' w' c hk hR' hE' hS' hT => hKp v env A' E' a w' c hk hR' (he.mono hE') (hE.trans hE') (hS.trans hS') ha hd hT)
          obtain ⟨p1, p2, p3⟩ := put_ok (he.mono hE') ha hinb hT
          have p1 : EnvR E' (put env ao.dst v) (a.put o.dst c) := by rw [hdst]; exact p1
          refine ih _ _ _ _ _ _ (by simpa using hsz) ?_ (by rw [← hset]; exact hk) hR' p1 (hE.trans hE') (hS.trans hS') p2 (p3.trans hd)
          have : ((List.range ops.size).filter (fun j => !(listed.setIfInBounds i true).getD j false)).length < ((List.range ops.size).filter (fun j => !listed.getD j false)).length := by
            have e1 : (List.range ops.size).filter (fun j => !(listed.setIfInBounds i true).getD j false) = ((List.range ops.size).filter (fun j => !listed.getD j false)).filter (fun j => j != i) := by
              rw [List.filter_filter]
              refine List.filter_congr fun j hj => ?_
              have := congrFun hset j
              rw [← this]
              unfold setL
              by_cases hj : j = i
              · simp [hj]
              · simp [hj]
            rw [e1, List.length_filter_lt_length_iff_exists]
            exact ⟨i, List.mem_filter.2 ⟨by simpa using hlt, by rw [hi']; rfl⟩, by simp⟩
          omega
      refine go ops.size _ env A E a _ (by simp) (Nat.le_trans (List.length_filter_le _ _) (by simp)) ?_ hR he hE hS ha hd
      have : (fun i => (Array.replicate ops.size false).getD i false) = fun _ => false := by
        funext i
        by_cases hi : i < ops.size <;> simp [hi]
      rw [this]; exact h0
    · cases ht
  · cases ht
end
end AVL
