/- Lengths, addresses of elements, parts of slices, make, slice literals, conversions, equality. -/
import Derived.Test.YtfdckjliinpjiaaVj
namespace AVL
open Go
set_option linter.unusedSimpArgs false
set_option linter.unusedVariables false

section
variable {P : Program} {w : World} {E : Emb} {A : Heap} {K : AV → Heap → Prop}

/-! ### length -/
def alen (str : Bool) (x : AV) (K : AV → Prop) : Prop :=
  match str with
  | true => match x with
    | .str s => K (.int .i64 s.size)
    | _ => False
  | false => match x with
    | .nilS => K (.int .i64 0)
    | .isl _ l => K (.int .i64 l.length)
    | .dsl _ l => K (.int .i64 l.length)
    | .own _ _ n => K (.int .i64 n)
    | .asl _ _ _ _ n => K (.int .i64 n)
    | _ => False
def lenT (P : Program) (t : TypeId) : Option Bool := match P.underlying t with
  | some .string => some true
  | some (.slice _) => some false
  | _ => none
theorem len_ok {t ty : TypeId} {str : Bool} {x : AV} {c : Value} (hR : Rep E A w) (ht : lenT P t = some str) (hx : TV E x c) (h : alen str x fun v => K v A) :
    ResV E A w K ((do pure (Next.value (← Builtin.len_ #[t] ty #[c])) : Sem Next).run P w) := by
  have main : ∀ n : Nat, (Builtin.len_ #[t] ty #[c]).run P w = .ok (.int .i64 n) w → K (.int .i64 n) A → ResV E A w K ((do pure (Next.value (← Builtin.len_ #[t] ty #[c])) : Sem Next).run P w) := by
    intro n hr hk
    simp only [Sem.run_bind, hr, Result.andThen_ok, Sem.run_pure]
    exact Res.val hR hk (TV_int.2 rfl)
  unfold alen at h
  unfold lenT at ht
  split at ht
  · rename_i hu
    injection ht with ht; subst ht
    simp only at h
    split at h
    · simp only [TV_str] at hx; subst hx
      exact main _ (by simp [Builtin.len_, run_underlying hu, goInt]) h
    · exact h.elim
  · rename_i e hu
    injection ht with ht; subst ht
    have sl : ∀ a n cap, c = .slice a n cap → (Builtin.len_ #[t] ty #[c]).run P w = .ok (.int .i64 n) w := by
      rintro a n cap rfl
      simp [Builtin.len_, run_underlying hu, goInt]
    simp only at h
    split at h
    · simp only [TV_nilS] at hx; exact main 0 (sl _ _ _ hx) h
    · obtain ⟨a, cap, rfl, _⟩ := TV_isl.1 hx; exact main _ (sl _ _ _ rfl) h
    · obtain ⟨a, cap, rfl, _⟩ := TV_dsl.1 hx; exact main _ (sl _ _ _ rfl) h
    · obtain ⟨_, a, cap, rfl, _⟩ := TV_own.1 hx; exact main _ (sl _ _ _ rfl) h
    · obtain ⟨_, _, a, rfl, _⟩ := TV_asl.1 hx; exact main _ (sl _ _ _ rfl) h
    · exact h.elim
  · cases ht

/-! ### the address of an element -/
def aidx (sz : Nat) (x : AV) (i : Int) (A : Heap) (K : AV → Heap → Prop) : Prop :=
  match x with
  | .isl k l => sz = 1 ∧ 0 ≤ i ∧ i < l.length ∧ K (.pval (.int k (l.getD i.toNat 0))) A
  | .dsl s l => s = sz ∧ 0 ≤ i ∧ ∃ h : i.toNat < l.length, K (.pval l[i.toNat]) A
  | .own g i0 n => (match A g with
    | some (.irow ..) => sz = 1
    | some (.row _ s _) => s = sz
    | _ => False) ∧ 0 ≤ i ∧ i < n ∧ K (.pel g (i0 + i.toNat) 0) A
  | .asl g o m i0 n => sz = 1 ∧ 0 ≤ i ∧ i < n ∧ K (.pix g o m (i0 + i.toNat)) A
  | _ => False
theorem idx_ok {t e : TypeId} {sz : Nat} {x : AV} {c : Value} {k : IntKind} {n : Int} (hR : Rep E A w) (ht : P.underlying t = some (.slice e)) (hs : (P.info? e).map (·.size) = some sz)
    (hx : TV E x c) (h : aidx sz x n A K) :
    ResV E A w K ((do pure (Next.value (← Instr.indexAt t c (.int k n))) : Sem Next).run P w) := by
  have hsize : (Go.sizeOf e).run P w = .ok sz w := by
    cases hi : P.info? e with
    | none => rw [hi] at hs; simp at hs
    | some j => rw [hi] at hs; simp at hs; subst hs; simp [Go.sizeOf, typeInfo, hi]
  have main : ∀ b off len cap, c = .slice (some (pA b off)) len cap → 0 ≤ n → n < len →
      (do pure (Next.value (← Instr.indexAt t c (.int k n))) : Sem Next).run P w = .ok (.value (.pointer (some (pA b (off + n.toNat * sz))))) w := by
    rintro b off len cap rfl h0 h1
    simp [Instr.indexAt, asIntOf, run_underlying ht, h0, h1, hsize, pA_add]
  unfold aidx at h
  split at h
  · rename_i k' l
    obtain ⟨rfl, h0, h1, hk⟩ := h
    obtain ⟨a, cap, rfl, hcap, hp⟩ := TV_isl.1 hx
    obtain ⟨b, off, rfl, hc⟩ := hp (by omega)
    rw [main b off _ cap rfl h0 h1]
    refine Res.val hR hk (TV_pval.2 ⟨b, _, [.int k' (l.getD n.toNat 0)], rfl, rfl, fun j hj => ?_, by simp [VR]⟩)
    simp only [AV.size] at hj
    have hj0 : j = 0 := by omega
    subst hj0
    have := hc n.toNat (by omega)
    simpa using this
  · rename_i s l
    obtain ⟨rfl, h0, h1, hk⟩ := h
    obtain ⟨a, cap, rfl, hcap, hp⟩ := TV_dsl.1 hx
    obtain ⟨b, off, rfl, hsr⟩ := hp (by omega)
    rw [main b off _ cap rfl h0 (by omega)]
    obtain ⟨cs, hv, hcell⟩ := SR_get hsr
    obtain ⟨d, hd, hdc, hdv⟩ := VRe_get hv (List.getElem?_eq_getElem h1)
    have hl := VRe_len hv
    have hm : (n.toNat + 1) * s ≤ l.length * s := Nat.mul_le_mul_right _ h1
    rw [Nat.succ_mul] at hm
    have hvs : l[n.toNat].size = s := by rw [← VR_len _ _ hdv, hd]
    refine Res.val hR hk (TV_pval.2 ⟨b, _, d, rfl, by rw [hd, hvs], fun j hj => ?_, hdv⟩)
    rw [hvs] at hj
    rw [← hdc j hj, ← hcell _ (by omega)]
    congr 1; omega
  · rename_i g i0 m
    obtain ⟨hsz, h0, h1, hk⟩ := h
    obtain ⟨hg, a, cap, rfl, hcap, hroom, hloc⟩ := TV_own.1 hx
    rcases hloc with rfl | ⟨b, off, ha, rfl⟩
    · omega
    have hsz2 : (E.loc g).sz = sz := by
      split at hsz
      · rename_i hA; obtain ⟨h, _⟩ := hR.cont g _ hA; rw [h, hsz]
      · rename_i hA; obtain ⟨h, _⟩ := hR.cont g _ hA; rw [h, hsz]
      · exact hsz.elim
    rw [main b _ _ cap rfl h0 h1]
    refine Res.val hR hk (TV_pel.2 ⟨hg, b, off, ha, ?_⟩)
    rw [hsz2, Nat.add_mul]; simp [Nat.add_assoc]
  · rename_i g o m i0 n'
    obtain ⟨rfl, h0, h1, hk⟩ := h
    obtain ⟨hg, him, a, rfl, hloc⟩ := TV_asl.1 hx
    rcases hloc with rfl | ⟨b, off, ha, rfl⟩
    · omega
    rw [main b _ _ _ rfl h0 h1]
    refine Res.val hR hk (TV_pix.2 ⟨hg, by omega, b, off, ha, by simp [Nat.add_assoc]⟩)
  · exact h.elim

/-! ### the address of an array's element -/
def aidxA (m sz : Nat) (ints : Bool) (x : AV) (i : Int) (A : Heap) (K : AV → Heap → Prop) : Prop :=
  match x with
  | .ptr g o => 0 ≤ i ∧ i < m ∧ (match ints with
    | true => K (.pix g o m i.toNat) A
    | false => K (.ptr g (o + i.toNat * sz)) A)
  | .pel g j o => 0 ≤ i ∧ i < m ∧ (match ints with
    | true => False
    | false => K (.pel g j (o + i.toNat * sz)) A)
  | .pval (.iarr k m' l) => 0 ≤ i ∧ i < m ∧ ints = true ∧ m' = m ∧ K (.pval (.int k (l.getD i.toNat 0))) A
  | _ => False
def idxAT (P : Program) (t : TypeId) : Option (Nat × Nat × Bool) :=
  match P.underlying t with
  | some (.array m e) => match P.underlying e, P.info? e with
    | some (.int _), some j => if j.size = 1 then some (m, 1, true) else none
    | some _, some j => some (m, j.size, false)
    | _, _ => none
  | _ => none
theorem idxA_ok {t : TypeId} {m sz : Nat} {ints : Bool} {x : AV} {c : Value} {k : IntKind} {n : Int} (hR : Rep E A w) (ht : idxAT P t = some (m, sz, ints)) (hx : TV E x c) (h : aidxA m sz ints x n A K) :
    ResV E A w K ((do pure (Next.value (← Instr.indexAt t c (.int k n))) : Sem Next).run P w) := by
  unfold idxAT at ht
  split at ht
  · rename_i m' e hu
    have hT : m' = m ∧ (Go.sizeOf e).run P w = .ok sz w ∧ (ints = true → sz = 1) := by
      split at ht
      · rename_i j _ hi
        split at ht
        · rename_i hj
          injection ht with ht; injection ht with e1 e2; injection e2 with e2 e3; subst e1; subst e2; subst e3
          exact ⟨rfl, by simp [Go.sizeOf, typeInfo, hi, hj], fun _ => rfl⟩
        · cases ht
      · rename_i j _ _ hi
        injection ht with ht; injection ht with e1 e2; injection e2 with e2 e3; subst e1; subst e2; subst e3
        exact ⟨rfl, by simp [Go.sizeOf, typeInfo, hi], fun h => by cases h⟩
      · cases ht
    obtain ⟨rfl, hsize, hi1⟩ := hT
    have main : ∀ b off, c = .pointer (some (pA b off)) → 0 ≤ n → n < m' →
        (do pure (Next.value (← Instr.indexAt t c (.int k n))) : Sem Next).run P w = .ok (.value (.pointer (some (pA b (off + n.toNat * sz))))) w := by
      rintro b off rfl h0 h1
      simp [Instr.indexAt, asIntOf, run_underlying hu, h0, h1, hsize, pA_add, Instr.sureAddr]
    unfold aidxA at h
    split at h
    · obtain ⟨h0, h1, h⟩ := h
      obtain ⟨hg, b, off, ha, rfl⟩ := TV_ptr.1 hx
      rw [main b _ rfl h0 h1]
      split at h
      · have := hi1 rfl; subst this
        exact Res.val hR h (TV_pix.2 ⟨hg, by omega, b, off, ha, by simp⟩)
      · exact Res.val hR h (TV_ptr.2 ⟨hg, b, off, ha, by rw [Nat.add_assoc]⟩)
    · obtain ⟨h0, h1, h⟩ := h
      obtain ⟨hg, b, off, ha, rfl⟩ := TV_pel.1 hx
      rw [main b _ rfl h0 h1]
      split at h
      · exact h.elim
      · exact Res.val hR h (TV_pel.2 ⟨hg, b, off, ha, by rw [Nat.add_assoc]⟩)
    · rename_i k' m'' l
      obtain ⟨h0, h1, rfl, rfl, hk⟩ := h
      obtain ⟨b, off, xs, rfl, hl, hcell, hv⟩ := TV_pval.1 hx
      have := hi1 rfl; subst this
      rw [main b _ rfl h0 h1]
      simp only [VR] at hv; subst hv
      refine Res.val hR hk (TV_pval.2 ⟨b, _, [.int k' (l.getD n.toNat 0)], rfl, rfl, fun j hj => ?_, by simp [VR]⟩)
      simp only [AV.size] at hj hcell
      have hj0 : j = 0 := by omega
      subst hj0
      have := hcell n.toNat (by omega)
      rw [Nat.mul_one, Nat.add_zero, this]
      simp [show n.toNat < m'' by omega]
    · exact h.elim
  · cases ht

/-! ### a part of a slice, of an array, of a string -/
def bnd (o : Option AV) (d : Int) (K : Int → Prop) : Prop :=
  match o with
  | none => K d
  | some (.int _ n) => K n
  | some _ => False
def aslc (x : AV) (lo hi : Option AV) (A : Heap) (K : AV → Heap → Prop) : Prop :=
  match x with
  | .nilS => bnd lo 0 fun l => bnd hi 0 fun h => l = 0 ∧ h = 0 ∧ K .nilS A
  | .isl k xs => bnd lo 0 fun l => bnd hi xs.length fun h => 0 ≤ l ∧ l ≤ h ∧ h ≤ xs.length ∧ K (.isl k ((xs.drop l.toNat).take (h.toNat - l.toNat))) A
  | .dsl s xs => bnd lo 0 fun l => bnd hi xs.length fun h => 0 ≤ l ∧ l ≤ h ∧ h ≤ xs.length ∧ K (.dsl s ((xs.drop l.toNat).take (h.toNat - l.toNat))) A
  | .own g i n => bnd lo 0 fun l => bnd hi n fun h => 0 ≤ l ∧ l ≤ h ∧ h ≤ n ∧ K (.own g (i + l.toNat) (h.toNat - l.toNat)) A
  | .asl g o m i n => bnd lo 0 fun l => bnd hi n fun h => 0 ≤ l ∧ l ≤ h ∧ h ≤ n ∧ K (.asl g o m (i + l.toNat) (h.toNat - l.toNat)) A
  | _ => False
theorem TVo_bnd {o : Option AV} {v : Option Value} (hr : (o = none ∧ v = none) ∨ ∃ a c, o = some a ∧ v = some c ∧ TV E a c) {d : Int} {Q : Int → Prop} (h : bnd o d Q) :
    (v = none ∧ Q d) ∨ ∃ k n, v = some (.int k n) ∧ Q n := by
  rcases hr with ⟨rfl, rfl⟩ | ⟨a, c, rfl, rfl, ht⟩
  · exact .inl ⟨rfl, h⟩
  · unfold bnd at h
    split at h
    · rename_i e; cases e
    · rename_i k n e
      injection e with e; subst e
      simp only [TV_int] at ht; subst ht
      exact .inr ⟨k, n, rfl, h⟩
    · exact h.elim
theorem run_bounds {isS : Bool} {len cap : Nat} {lo hi : Option Value} {l h : Int} (h0 : 0 ≤ l) (h1 : l ≤ h) (h2 : h ≤ cap)
    (hlo : (lo = none ∧ l = 0) ∨ ∃ k, lo = some (.int k l)) (hhi : (hi = none ∧ h = len) ∨ ∃ k, hi = some (.int k h)) :
    (Instr.sliceBounds isS len cap lo hi none).run P w = .ok (l.toNat, h.toNat, cap) w := by
  have hh : 0 ≤ h := by omega
  rcases hlo with ⟨rfl, rfl⟩ | ⟨k, rfl⟩ <;> rcases hhi with ⟨rfl, rfl⟩ | ⟨k', rfl⟩ <;>
    simp [Instr.sliceBounds, Instr.sliceBound, asIntOf, *] <;> (intros; omega)

/-- The elements' number of cells. -/
def szOK (sz : Nat) (x : AV) (A : Heap) : Prop :=
  match x with
  | .isl _ _ => sz = 1
  | .asl _ _ _ _ _ => sz = 1
  | .dsl s _ => s = sz
  | .own g _ _ => match A g with
    | some (.irow _ _ _) => sz = 1
    | some (.row _ s _) => s = sz
    | _ => False
  | _ => True
theorem slc_ok {t e : TypeId} {sz : Nat} {x : AV} {c : Value} {lo hi : Option AV} {vlo vhi : Option Value} (hR : Rep E A w) (ht : P.underlying t = some (.slice e)) (hs : (P.info? e).map (·.size) = some sz)
    (hx : TV E x c) (hlo : (lo = none ∧ vlo = none) ∨ ∃ a c, lo = some a ∧ vlo = some c ∧ TV E a c) (hhi : (hi = none ∧ vhi = none) ∨ ∃ a c, hi = some a ∧ vhi = some c ∧ TV E a c)
    (hsz : szOK sz x A)
    (h : aslc x lo hi A K) :
    ResV E A w K ((do pure (Next.value (← Instr.sliceAt t c vlo vhi none)) : Sem Next).run P w) := by
  have hsize : (Go.sizeOf e).run P w = .ok sz w := by
    cases hi : P.info? e with
    | none => rw [hi] at hs; simp at hs
    | some j => rw [hi] at hs; simp at hs; subst hs; simp [Go.sizeOf, typeInfo, hi]
  have main : ∀ (a : Option Addr) (len cap : Nat) (l h : Int), len ≤ cap → c = .slice a len cap → 0 ≤ l → l ≤ h → h ≤ len →
      ((vlo = none ∧ l = 0) ∨ ∃ k, vlo = some (.int k l)) → ((vhi = none ∧ h = len) ∨ ∃ k, vhi = some (.int k h)) →
      (do pure (Next.value (← Instr.sliceAt t c vlo vhi none)) : Sem Next).run P w = .ok (.value (.slice (if cap = l.toNat then a else a.map (·.add (l.toNat * sz))) (h.toNat - l.toNat) (cap - l.toNat))) w := by
    rintro a len cap l h hle rfl h0 h1 h2 e1 e2
    have hb := run_bounds (P := P) (w := w) (isS := true) (len := len) (cap := cap) h0 h1 (by omega) e1 e2
    simp [Instr.sliceAt, run_underlying ht, Instr.slice, hb, hsize]
  unfold aslc at h
  split at h
  · simp only [TV_nilS] at hx
    rcases TVo_bnd hlo h with ⟨e1, h⟩ | ⟨k, l, e1, h⟩ <;> rcases TVo_bnd hhi h with ⟨e2, h⟩ | ⟨k', hh, e2, h⟩ <;> obtain ⟨h1, h2, hk⟩ := h
    · rw [main none 0 0 0 0 (by omega) hx (by omega) (by omega) (by omega) (.inl ⟨e1, rfl⟩) (.inl ⟨e2, rfl⟩)]
      exact Res.val hR hk (TV_nilS.2 rfl)
    · subst h2
      rw [main none 0 0 0 0 (by omega) hx (by omega) (by omega) (by omega) (.inl ⟨e1, rfl⟩) (.inr ⟨k', e2⟩)]
      exact Res.val hR hk (TV_nilS.2 rfl)
    · subst h1
      rw [main none 0 0 0 0 (by omega) hx (by omega) (by omega) (by omega) (.inr ⟨k, e1⟩) (.inl ⟨e2, rfl⟩)]
      exact Res.val hR hk (TV_nilS.2 rfl)
    · subst h1; subst h2
      rw [main none 0 0 0 0 (by omega) hx (by omega) (by omega) (by omega) (.inr ⟨k, e1⟩) (.inr ⟨k', e2⟩)]
      exact Res.val hR hk (TV_nilS.2 rfl)
  · rename_i k0 xs
    obtain ⟨a, cap, rfl, hcap, hp⟩ := TV_isl.1 hx
    simp only [szOK] at hsz; subst hsz
    have key : ∀ l h : Int, 0 ≤ l ∧ l ≤ h ∧ h ≤ xs.length ∧ K (.isl k0 ((xs.drop l.toNat).take (h.toNat - l.toNat))) A →
        ((vlo = none ∧ l = 0) ∨ ∃ k, vlo = some (.int k l)) → ((vhi = none ∧ h = xs.length) ∨ ∃ k, vhi = some (.int k h)) →
        ResV E A w K ((do pure (Next.value (← Instr.sliceAt t (.slice a xs.length cap) vlo vhi none)) : Sem Next).run P w) := by
      rintro l h ⟨h0, h1, h2, hk⟩ e1 e2
      rw [main a _ cap l h hcap rfl h0 h1 h2 e1 e2]
      have hlen : ((xs.drop l.toNat).take (h.toNat - l.toNat)).length = h.toNat - l.toNat := by simp; omega
      refine Res.val hR hk (TV_isl.2 ⟨_, _, by rw [hlen], by rw [hlen]; omega, fun hpos => ?_⟩)
      rw [hlen] at hpos
      obtain ⟨b, off, rfl, hc⟩ := hp (by omega)
      refine ⟨b, off + l.toNat, ?_, fun j hj => ?_⟩
      · rw [if_neg (by omega)]; simp [pA_add]
      · rw [hlen] at hj
        have := hc (l.toNat + j) (by omega)
        rw [Nat.add_assoc, this]
        simp [List.getD_eq_getElem?_getD, List.getElem?_take, hj]
    rcases TVo_bnd hlo h with ⟨e1, h⟩ | ⟨k, l, e1, h⟩ <;> rcases TVo_bnd hhi h with ⟨e2, h⟩ | ⟨k', hh, e2, h⟩
    · exact key 0 _ h (.inl ⟨e1, rfl⟩) (.inl ⟨e2, rfl⟩)
    · exact key 0 _ h (.inl ⟨e1, rfl⟩) (.inr ⟨_, e2⟩)
    · exact key _ _ h (.inr ⟨_, e1⟩) (.inl ⟨e2, rfl⟩)
    · exact key _ _ h (.inr ⟨_, e1⟩) (.inr ⟨_, e2⟩)
  · rename_i s0 xs
    obtain ⟨a, cap, rfl, hcap, hp⟩ := TV_dsl.1 hx
    simp only [szOK] at hsz; subst hsz
    have key : ∀ l h : Int, 0 ≤ l ∧ l ≤ h ∧ h ≤ xs.length ∧ K (.dsl s0 ((xs.drop l.toNat).take (h.toNat - l.toNat))) A →
        ((vlo = none ∧ l = 0) ∨ ∃ k, vlo = some (.int k l)) → ((vhi = none ∧ h = xs.length) ∨ ∃ k, vhi = some (.int k h)) →
        ResV E A w K ((do pure (Next.value (← Instr.sliceAt t (.slice a xs.length cap) vlo vhi none)) : Sem Next).run P w) := by
      rintro l h ⟨h0, h1, h2, hk⟩ e1 e2
      rw [main a _ cap l h hcap rfl h0 h1 h2 e1 e2]
      have hlen : ((xs.drop l.toNat).take (h.toNat - l.toNat)).length = h.toNat - l.toNat := by simp; omega
      refine Res.val hR hk (TV_dsl.2 ⟨_, _, by rw [hlen], by rw [hlen]; omega, fun hpos => ?_⟩)
      rw [hlen] at hpos
      obtain ⟨b, off, rfl, hsr⟩ := hp (by omega)
      have hd : ∀ (ys : List AV) (n o : Nat), SR E b s0 o ys → SR E b s0 (o + n * s0) (ys.drop n) := by
        intro ys
        induction ys with
        | nil => intro n o _; simp [SR]
        | cons y r ih =>
          intro n o hh
          cases n with
          | zero => simpa using hh
          | succ n =>
            simp only [SR] at hh
            have := ih n (o + s0) hh.2
            rw [List.drop_succ_cons]
            rw [show o + (n + 1) * s0 = o + s0 + n * s0 by rw [Nat.succ_mul]; omega]
            exact this
      have htk : ∀ (ys : List AV) (n o : Nat), SR E b s0 o ys → SR E b s0 o (ys.take n) := by
        intro ys
        induction ys with
        | nil => intro n o _; simp [SR]
        | cons y r ih =>
          intro n o hh
          cases n with
          | zero => simp [SR]
          | succ n =>
            simp only [SR, List.take_succ_cons] at hh ⊢
            exact ⟨hh.1, ih n _ hh.2⟩
      refine ⟨b, off + l.toNat * s0, ?_, htk _ _ _ (hd _ _ _ hsr)⟩
      rw [if_neg (by omega)]; simp [pA_add]
    rcases TVo_bnd hlo h with ⟨e1, h⟩ | ⟨k, l, e1, h⟩ <;> rcases TVo_bnd hhi h with ⟨e2, h⟩ | ⟨k', hh, e2, h⟩
    · exact key 0 _ h (.inl ⟨e1, rfl⟩) (.inl ⟨e2, rfl⟩)
    · exact key 0 _ h (.inl ⟨e1, rfl⟩) (.inr ⟨_, e2⟩)
    · exact key _ _ h (.inr ⟨_, e1⟩) (.inl ⟨e2, rfl⟩)
    · exact key _ _ h (.inr ⟨_, e1⟩) (.inr ⟨_, e2⟩)
  · rename_i g i n
    obtain ⟨hg, a, cap, rfl, hcap, hroom, hloc⟩ := TV_own.1 hx
    have hsz2 : (E.loc g).sz = sz := by
      simp only [szOK] at hsz
      split at hsz
      · rename_i hA; obtain ⟨h, _⟩ := hR.cont g _ hA; rw [h, hsz]
      · rename_i hA; obtain ⟨h, _⟩ := hR.cont g _ hA; rw [h, hsz]
      · exact hsz.elim
    have key : ∀ l h : Int, 0 ≤ l ∧ l ≤ h ∧ h ≤ n ∧ K (.own g (i + l.toNat) (h.toNat - l.toNat)) A →
        ((vlo = none ∧ l = 0) ∨ ∃ k, vlo = some (.int k l)) → ((vhi = none ∧ h = n) ∨ ∃ k, vhi = some (.int k h)) →
        ResV E A w K ((do pure (Next.value (← Instr.sliceAt t (.slice a n cap) vlo vhi none)) : Sem Next).run P w) := by
      rintro l h ⟨h0, h1, h2, hk⟩ e1 e2
      rw [main a _ cap l h hcap rfl h0 h1 h2 e1 e2]
      refine Res.val hR hk (TV_own.2 ⟨hg, _, _, rfl, by omega, by omega, ?_⟩)
      by_cases he : cap = l.toNat
      · exact .inl (by omega)
      · rcases hloc with rfl | ⟨b, off, ha, rfl⟩
        · omega
        · refine .inr ⟨b, off, ha, ?_⟩
          rw [if_neg he, hsz2]; simp [pA_add, Nat.add_mul, Nat.add_assoc]
    rcases TVo_bnd hlo h with ⟨e1, h⟩ | ⟨k, l, e1, h⟩ <;> rcases TVo_bnd hhi h with ⟨e2, h⟩ | ⟨k', hh, e2, h⟩
    · exact key 0 _ h (.inl ⟨e1, rfl⟩) (.inl ⟨e2, rfl⟩)
    · exact key 0 _ h (.inl ⟨e1, rfl⟩) (.inr ⟨_, e2⟩)
    · exact key _ _ h (.inr ⟨_, e1⟩) (.inl ⟨e2, rfl⟩)
    · exact key _ _ h (.inr ⟨_, e1⟩) (.inr ⟨_, e2⟩)
  · rename_i g o m i n
    obtain ⟨hg, him, a, rfl, hloc⟩ := TV_asl.1 hx
    simp only [szOK] at hsz; subst hsz
    have key : ∀ l h : Int, 0 ≤ l ∧ l ≤ h ∧ h ≤ n ∧ K (.asl g o m (i + l.toNat) (h.toNat - l.toNat)) A →
        ((vlo = none ∧ l = 0) ∨ ∃ k, vlo = some (.int k l)) → ((vhi = none ∧ h = n) ∨ ∃ k, vhi = some (.int k h)) →
        ResV E A w K ((do pure (Next.value (← Instr.sliceAt t (.slice a n (m - i)) vlo vhi none)) : Sem Next).run P w) := by
      rintro l h ⟨h0, h1, h2, hk⟩ e1 e2
      rw [main a _ (m - i) l h (by omega) rfl h0 h1 h2 e1 e2]
      refine Res.val hR hk (TV_asl.2 ⟨hg, by omega, _, by rw [Nat.sub_sub], ?_⟩)
      by_cases he : m - i = l.toNat
      · exact .inl (by omega)
      · rcases hloc with rfl | ⟨b, off, ha, rfl⟩
        · omega
        · refine .inr ⟨b, off, ha, ?_⟩
          rw [if_neg he]; simp [pA_add, Nat.add_assoc]
    rcases TVo_bnd hlo h with ⟨e1, h⟩ | ⟨k, l, e1, h⟩ <;> rcases TVo_bnd hhi h with ⟨e2, h⟩ | ⟨k', hh, e2, h⟩
    · exact key 0 _ h (.inl ⟨e1, rfl⟩) (.inl ⟨e2, rfl⟩)
    · exact key 0 _ h (.inl ⟨e1, rfl⟩) (.inr ⟨_, e2⟩)
    · exact key _ _ h (.inr ⟨_, e1⟩) (.inl ⟨e2, rfl⟩)
    · exact key _ _ h (.inr ⟨_, e1⟩) (.inr ⟨_, e2⟩)
  · exact h.elim
end
end AVL
