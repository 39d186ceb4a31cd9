/- Further operations: bytes that are marked as text's, a text of bytes, an element of an array. -/
import Derived.Test.YtgbplcelcjffdaaVm
import Derived.Test.YtgbplcelcjffdaaVjz
namespace AVL
open Go
set_option linter.unusedSimpArgs false
set_option linter.unusedVariables false

inductive XOp where
  | sealB
  | bstr
  | idxV (m sz : Nat) (sh : Sh)
  | appZ (e : TypeId) (k : IntKind) (bytes : Nat)
def XOp.floats : XOp → Bool
  | .sealB | .appZ .. => false
  | _ => true
def XOp.reads : XOp → Bool
  | .bstr => true
  | _ => false
def strOf (l : List Int) : ByteArray := ⟨(l.map fun n => UInt8.ofNat n.toNat).toArray⟩
def isU8 (P : Program) (e : TypeId) : Bool := match P.underlying e with
  | some (.int .u8) => true
  | _ => false
theorem isU8_ok {P : Program} {e : TypeId} (h : isU8 P e = true) : P.underlying e = some (.int .u8) := by
  unfold isU8 at h
  split at h
  · assumption
  · cases h
def AV.isSl : AV → Bool
  | .nilS | .isl .. | .own .. | .asl .. => true
  | _ => false
def xop (o : XOp) (xs : List AV) (A : Heap) (K : AV → Heap → Prop) : Prop :=
  match o, xs with
  | .sealB, [x] => match x with
    | .own g i n => 0 < n ∧ match A g with
      | some (.irow _ k l) => i + n ≤ l.length ∧ K (.isl k ((l.drop i).take n)) (A.del g)
      | _ => False
    | _ => False
  | .bstr, [x] => x.isSl = true ∧ srcI .u8 x A fun l => K (.str (strOf l)) A
  | .idxV m sz sh, [x, i] => match i with
    | .int _ n => x.isAgg = true ∧ 0 ≤ n ∧ n < m ∧ match getC (comps x) (n.toNat * sz) sz sh with
      | some v => K v A
      | none => False
    | _ => False
  | .appZ e k bytes, [d, s] => aappZ e k bytes d s A K
  | _, _ => False
def trX (P : Program) (o : Op) : Option (XOp × List Operand) :=
  match o with
  | .convert s t x => match P.underlying s, P.underlying t with
    | some (.slice e), some (.slice _) => if s = t ∧ isU8 P e = true then some (.sealB, [x]) else none
    | some (.slice e), some .string => if isU8 P e = true then some (.bstr, [x]) else none
    | _, _ => none
  | .index t x i => match P.underlying t with
    | some (.array m e) => match shOf P e with
      | some (sh, sz) => some (.idxV m sz sh, [x, i])
      | none => none
    | _ => none
  | .call c => match c.callee, c.args.toList, c.argTypes.toList with
    | .builtin .append, [d, s], [t, u] => match P.underlying t, P.underlying u with
      | some (.slice e), some (.int _) => match elOf P e, intK P e with
        | some (sz, bytes, .int k n), some k' => if sz = 1 ∧ n = 0 ∧ k = k' then some (.appZ e k bytes, [d, s]) else none
        | _, _ => none
      | _, _ => none
    | _, _, _ => none
  | _ => none

section
variable {P : Program} {w : World} {E : Emb} {A : Heap} {K : AV → Heap → Prop} {a : Act}

/-- The embedding with one block more that stays as it is. -/
def Emb.hold (E : Emb) (b : Nat) (o : Obj) : Emb := { E with F := fun x => if x = b then some o else E.F x }
theorem Emb.hold_le (E : Emb) {b : Nat} (o : Obj) (h : E.F b = none) : E.Le (E.hold b o) :=
  ⟨Nat.le_refl _, fun _ _ => rfl, fun x y hx => by
    simp only [Emb.hold]
    split
    · rename_i e; subst e; rw [h] at hx; cases hx
    · exact hx, rfl⟩
theorem Rep.hold (hR : Rep E A w) {b : Nat} {o : Obj} {w' : World} (hF : E.F b = none) (hb : w'.heap[b]? = some o) (hw : ∀ x, x ≠ b → w'.heap[x]? = w.heap[x]?)
    (hA : ∀ g c b' off, A g = some c → (E.loc g).addr = some (b', off) → b' ≠ b) : Rep (E.hold b o) A w' := by
  refine ⟨fun x y hx => ?_, hR.lt, fun g c hg => ?_, hR.sep, hR.low, hR.lon⟩
  · simp only [Emb.hold] at hx
    split at hx
    · rename_i e; subst e; injection hx with hx; subst hx; exact hb
    · rename_i hne; rw [hw x hne]; exact hR.frm x y hx
  · refine RepC_mono (E.hold_le o hF) (hR.lt g c hg) (hR.cont g c hg) (fun b' off ha => ?_) (fun b' off ha => hw b' (hA g c b' off hg ha))
    have hne := hA g c b' off hg ha
    simp only [Emb.hold, if_neg hne]
    exact (hR.blk hg ha).2

theorem run_mark {b off : Nat} {C : Array Value} {t : TypeId} (hb : w.heap[b]? = some (.cells C t (0, 0))) :
    (markStringish (pA b off)).run P w = .ok () (w.freeze { block := b, off := C.size } 1) := by
  simp [markStringish, pA, shape, World.shape?, hb, freeze, Sem.run]
theorem freeze_eq {b : Nat} {C : Array Value} {t : TypeId} (hb : w.heap[b]? = some (.cells C t (0, 0))) :
    (w.freeze { block := b, off := C.size } 1).heap[b]? = some (.cells C t (C.size, C.size + 1)) := by
  have hlt := (Array.getElem?_eq_some_iff.1 hb).1
  simp [World.freeze, Array.getElem?_modify, hb]
theorem freeze_ne {b x n k : Nat} (h : x ≠ b) : (w.freeze { block := b, off := n } k).heap[x]? = w.heap[x]? := by
  unfold World.freeze
  split
  · rfl
  · simp [Array.getElem?_modify, Ne.symm h]
theorem seal_ok {s t e e' : TypeId} {x : AV} {c : Value} (hR : Rep E A w) (h1 : P.underlying s = some (.slice e)) (h2 : P.underlying t = some (.slice e')) (hst : s = t) (he : P.underlying e = some (.int .u8))
    (hx : TV E x c) (h : xop .sealB [x] A K) : Res E w K ((do pure (Next.value (← convert s t c)) : Sem Next).run P w) := by
  subst hst
  rw [h1] at h2; injection h2 with h2; injection h2 with h2; subst h2
  simp only [xop] at h
  split at h
  · rename_i g i n
    obtain ⟨hn, h⟩ := h
    split at h
    · rename_i tt k l hA
      obtain ⟨hin, hk⟩ := h
      have hc := hR.cont g _ hA
      obtain ⟨hg, ad, cap, rfl, hcap, hroom, hloc⟩ := TV_own.1 hx
      obtain ⟨hsz, hlr, hcs⟩ := hc
      rcases hcs with ⟨hn0, hr0⟩ | ⟨b, off, C, ha, hF, hb, hC, hcs⟩
      · exfalso; omega
      · rcases hloc with h0 | ⟨b', off', ha', rfl⟩
        · exfalso; omega
        · rw [ha] at ha'; injection ha' with ha'; injection ha' with e1 e2; subst e1; subst e2
          rw [hsz, Nat.mul_one]
          have hrun : (convert s s (.slice (some (pA b (off + i))) n cap)).run P w = .ok (.slice (some (pA b (off + i))) n cap) (w.freeze { block := b, off := C.size } 1) := by
            simp only [convert, Sem.run_bind, run_underlying h1, Result.andThen_ok, he, beq_self_eq_true, run_mark hb, run_underlying he]
            rfl
          simp only [Sem.run_bind, hrun, Result.andThen_ok, Sem.run_pure]
          have hoth : ∀ g' c' b' o', (A.del g) g' = some c' → (E.loc g').addr = some (b', o') → b' ≠ b := by
            intro g' c' b' o' hg' ha2
            have hgn : g' ≠ g := fun e => by simp [Heap.del, e] at hg'
            exact hR.sep g' g c' _ (by simpa [Heap.del, hgn] using hg') hA hgn _ _ ha2 ha
          refine ⟨_, _, E.hold b (.cells C tt (C.size, C.size + 1)), _, hk, (hR.del g).hold hF (freeze_eq hb) (fun x hx => freeze_ne hx) hoth, E.hold_le _ hF, ?_, .inl ⟨_, rfl, ?_⟩⟩
          · refine ⟨?_, ?_, ?_, ?_⟩ <;> simp [World.freeze]
          · have hl : ((l.drop i).take n).length = n := by simp; omega
            refine .inr ⟨rfl, ?_⟩
            simp only [VR]
            refine ⟨_, cap, by rw [hl], by omega, fun _ => ⟨b, off + i, rfl, fun j hj => ?_⟩⟩
            rw [hl] at hj
            have := hcs (i + j) (by omega)
            simp only [Emb.cell, Emb.hold, if_true]
            rw [Nat.add_assoc, this]
            simp [List.getElem?_take, hj, List.getElem?_drop]
    · exact h.elim
  · exact h.elim
theorem idxV_ok {t e : TypeId} {m sz : Nat} {sh : Sh} {x i : AV} {c d : Value} (hR : Rep E A w) (ht : P.underlying t = some (.array m e)) (hs : shOf P e = some (sh, sz)) (hx : TV E x c) (hi : TV E i d)
    (h : xop (.idxV m sz sh) [x, i] A K) : ResV E A w K ((do pure (Next.value (← Instr.index t c d)) : Sem Next).run P w) := by
  simp only [xop] at h
  split at h
  · rename_i k n
    simp only [TV_int] at hi; subst hi
    obtain ⟨hag, h0, hm, h⟩ := h
    split at h
    · rename_i v hget
      rcases hx with ⟨_, xs, hv, rfl⟩ | ⟨hna, _⟩
      · have hvs := VR_comps hv
        obtain ⟨c', hrun, hd⟩ := run_part (w := w) hs (getC_len hvs hget)
        have hsz := (shOf_run (w := w) hs).2.1
        simp only [Instr.index, Sem.run_bind, asIntOf, Sem.run_pure, run_underlying ht w, Result.andThen_ok, h0, hm, and_self, if_true, hsz, hrun]
        exact Res.val hR h (getC_ok hvs hget hd)
      · rw [hag] at hna; cases hna
    · exact h.elim
  · exact h.elim

theorem run_bytes (g : Value → ByteArray → Sem (ForInStep ByteArray)) (hg : ∀ n r, g (.int .u8 n) r = pure (ForInStep.yield (r.push (UInt8.ofNat n.toNat)))) (f : List Int) (s : ByteArray) :
    (forIn ((f.map (Value.int .u8)).toArray) s g).run P w = .ok ⟨s.data ++ (f.map fun n => UInt8.ofNat n.toNat).toArray⟩ w := by
  rw [List.forIn_toArray]
  induction f generalizing s with
  | nil => simp
  | cons n r ih =>
    simp only [List.map_cons, List.forIn_cons, hg, Sem.run_bind, Sem.run_pure, Result.andThen_ok, ih]
    congr 1
    apply ByteArray.ext
    simp [ByteArray.push]
theorem bstr_ok {s t e : TypeId} {x : AV} {c : Value} (hR : Rep E A w) (h1 : P.underlying s = some (.slice e)) (h2 : P.underlying t = some .string) (he : P.underlying e = some (.int .u8))
    (hx : TV E x c) (h : xop .bstr [x] A K) : ResV E A w K ((do pure (Next.value (← convert s t c)) : Sem Next).run P w) := by
  simp only [xop] at h
  obtain ⟨hsl, h⟩ := h
  obtain ⟨vs, cs, ⟨ys, rfl, hk⟩, hr⟩ := srcG_ok (P := P) hR hx (srcI_G h)
  have hcs : cs = ys.map (Value.int .u8) := by
    have := hr.cells
    clear hr hk h
    induction ys generalizing cs with
    | nil => simpa [VRe] using this
    | cons y r ih =>
      simp only [List.map_cons, VRe] at this
      obtain ⟨c1, c2, rfl, _, h3, h4⟩ := this
      simp only [VR] at h3
      subst h3
      rw [ih c2 h4]; rfl
  subst hcs
  have hc : ∃ ad n cap, c = .slice ad n cap := by
    cases x <;> simp only [AV.isSl, Bool.false_eq_true] at hsl
    · simp only [TV_nilS] at hx; exact ⟨_, _, _, hx⟩
    · rcases hx with ⟨h, _⟩ | ⟨_, h⟩
      · cases h
      · simp only [VR] at h; obtain ⟨a, cap, h, _⟩ := h; injection h with h; exact ⟨_, _, _, h⟩
    · obtain ⟨_, a, cap, h, _⟩ := TV_own.1 hx; exact ⟨_, _, _, h⟩
    · obtain ⟨_, _, a, h, _⟩ := TV_asl.1 hx; exact ⟨_, _, _, h⟩
  obtain ⟨ad, n, cap, rfl⟩ := hc
  have hlen := hr.len
  have hf := hr.first w (ys.map (AV.int .u8)).length rfl (Nat.le_refl _)
  simp only [Builtin.lenOf, Sem.run_pure] at hlen
  injection hlen with hlen _
  simp only [List.length_map, Nat.mul_one] at hf hlen
  have hdo : (Conv.bytesToString (.slice ad n cap)).run P w = .ok (.string (strOf ys)) w := by
    cases ad with
    | none =>
      simp only [Builtin.firstCells, Sem.run_pure] at hf
      injection hf with hf _
      have : ys = [] := by
        have h2 := congrArg Array.size hf
        simp at h2
        exact List.eq_nil_of_length_eq_zero (by omega)
      subst this
      rfl
    | some ad =>
      simp only [Builtin.firstCells, Nat.mul_one] at hf
      unfold Conv.bytesToString
      subst hlen
      simp only [Sem.run_bind, hf, Result.andThen_ok, Sem.run_pure]
      have e : (List.take ys.length (ys.map (Value.int .u8))) = ys.map (Value.int .u8) := by rw [List.take_of_length_le (by simp)]
      rw [e]
      rw [run_bytes _ (fun n r => rfl) ys ByteArray.empty]
      simp [strOf]
  have hcv : (convert s t (.slice ad n cap)).run P w = .ok (.string (strOf ys)) w := by
    simp only [convert, Sem.run_bind, run_underlying h1, run_underlying h2, Result.andThen_ok, run_underlying he]
    exact hdo
  simp only [Sem.run_bind, hcv, Result.andThen_ok, Sem.run_pure]
  exact Res.val hR hk (.inr ⟨rfl, by simp [VR]⟩)
end
end AVL
