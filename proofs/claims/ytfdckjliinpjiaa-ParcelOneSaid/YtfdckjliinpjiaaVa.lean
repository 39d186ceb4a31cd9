/- Abstract values for Go programs, and what it means that a machine value stands for one. -/
import Derived.Below
import Derived.Tactics
import Derived.Laws.Rows
namespace AVL
open Go

inductive AV where
  | undef
  | int (k : IntKind) (n : Int)
  | bool (b : Bool)
  | str (s : ByteArray)
  | agg (l : List AV)
  | iarr (k : IntKind) (n : Nat) (l : List Int)
  | nilS
  | isl (k : IntKind) (l : List Int)
  | dsl (sz : Nat) (l : List AV)
  | own (g i n : Nat)
  | asl (g o m i n : Nat)
  | ptr (g o : Nat)
  | pix (g o m i : Nat)
  | pel (g i o : Nat)
  | pval (v : AV)
  | nilP
  | func (fn : Fn) (first cap : List AV)
  | nilF
  | iface (t : TypeId) (v : AV)
  | nilI
  | tuple (l : List AV)
  | map (g : Nat)
  | nilM
  deriving Inhabited

def AV.isAgg : AV → Bool
  | .agg _ | .iarr .. => true
  | _ => false

mutual
def AV.size : AV → Nat
  | .agg l => AV.sizes l
  | .iarr _ n _ => n
  | _ => 1
def AV.sizes : List AV → Nat
  | [] => 0
  | v :: r => v.size + AV.sizes r
end

structure Loc where
  addr : Option (Nat × Nat)
  sz : Nat
  room : Nat

structure Emb where
  loc : Nat → Loc
  N : Nat
  F : Nat → Option Obj
  lo : Nat := 0
  H : Nat → Option Obj := fun _ => none

def Emb.cell (E : Emb) (b off : Nat) : Option Value :=
  match E.F b with
  | some (.cells c _ _) => c[off]?
  | _ => none

structure Emb.Le0 (E E' : Emb) : Prop where
  n : E.N ≤ E'.N
  loc : ∀ g, g < E.N → E'.loc g = E.loc g
  F : ∀ b o, E.F b = some o → E'.F b = some o
structure Emb.Le (E E' : Emb) : Prop where
  n : E.N ≤ E'.N
  loc : ∀ g, g < E.N → E'.loc g = E.loc g
  F : ∀ b o, E.F b = some o → E'.F b = some o
  lo : E'.lo = E.lo
  H : ∀ b o, E.H b = some o → E'.H b = some o

theorem Emb.Le.refl (E : Emb) : E.Le E := ⟨Nat.le_refl _, fun _ _ => rfl, fun _ _ h => h, rfl, fun _ _ h => h⟩
theorem Emb.Le.trans {a b c : Emb} (h : a.Le b) (k : b.Le c) : a.Le c :=
  ⟨Nat.le_trans h.n k.n, fun g hg => (k.loc g (Nat.lt_of_lt_of_le hg h.n)).trans (h.loc g hg), fun b o hb => k.F b o (h.F b o hb), k.lo.trans h.lo, fun b o hb => k.H b o (h.H b o hb)⟩
theorem Emb.Le.to0 {E E' : Emb} (h : E.Le E') : E.Le0 E' := ⟨h.n, h.loc, h.F⟩
theorem Emb.Le0.cell {E E' : Emb} (h : E.Le0 E') {b off : Nat} {v : Value} (hc : E.cell b off = some v) : E'.cell b off = some v := by
  unfold Emb.cell at *
  cases hf : E.F b with
  | none => rw [hf] at hc; simp at hc
  | some o => rw [hf] at hc; rw [h.F b o hf]; exact hc

def pA (b off : Nat) : Addr := ⟨b, off, none⟩
theorem pA_add (b off n : Nat) : (pA b off).add n = pA b (off + n) := by
  unfold pA Addr.add; split <;> simp_all

mutual
def VR (E : Emb) : AV → List Value → Prop
  | .undef, cs => cs = [Go.undef]
  | .int k n, cs => cs = [.int k n]
  | .bool b, cs => cs = [.bool b]
  | .str s, cs => cs = [.string s]
  | .agg l, cs => VRs E l cs
  | .iarr k n l, cs => cs = (List.range n).map (fun j => .int k (l.getD j 0))
  | .nilS, cs => cs = [.slice none 0 0]
  | .isl k l, cs => ∃ a cap, cs = [.slice a l.length cap] ∧ l.length ≤ cap ∧ (0 < l.length → ∃ b off, a = some (pA b off) ∧ ∀ j, j < l.length → E.cell b (off + j) = some (.int k (l.getD j 0)))
  | .dsl sz l, cs => ∃ a cap, cs = [.slice a l.length cap] ∧ l.length ≤ cap ∧ (0 < l.length → ∃ b off, a = some (pA b off) ∧ SR E b sz off l)
  | .own g i n, cs => g < E.N ∧ ∃ a cap, cs = [.slice a n cap] ∧ n ≤ cap ∧ i + cap = (E.loc g).room ∧
      (cap = 0 ∨ ∃ b off, (E.loc g).addr = some (b, off) ∧ a = some (pA b (off + i * (E.loc g).sz)))
  | .asl g o m i n, cs => g < E.N ∧ i + n ≤ m ∧ ∃ a, cs = [.slice a n (m - i)] ∧ (m = i ∨ ∃ b off, (E.loc g).addr = some (b, off) ∧ a = some (pA b (off + o + i)))
  | .ptr g o, cs => g < E.N ∧ ∃ b off, (E.loc g).addr = some (b, off) ∧ cs = [.pointer (some (pA b (off + o)))]
  | .pix g o m i, cs => g < E.N ∧ i < m ∧ ∃ b off, (E.loc g).addr = some (b, off) ∧ cs = [.pointer (some (pA b (off + o + i)))]
  | .pel g i o, cs => g < E.N ∧ ∃ b off, (E.loc g).addr = some (b, off) ∧ cs = [.pointer (some (pA b (off + i * (E.loc g).sz + o)))]
  | .pval v, cs => ∃ b off xs, cs = [.pointer (some (pA b off))] ∧ xs.length = v.size ∧ (∀ j, j < v.size → E.cell b (off + j) = xs[j]?) ∧ VR E v xs
  | .nilP, cs => cs = [.pointer none]
  | .func fn first cap, cs => ∃ xs ys, cs = [.func fn xs ys] ∧ TVl E first xs.toList ∧ TVl E cap ys.toList
  | .nilF, cs => cs = [.nilFunc]
  | .iface t v, cs => ∃ c, cs = [.iface t c] ∧ ((v.isAgg = true ∧ ∃ xs, VR E v xs ∧ c = .agg xs.toArray) ∨ (v.isAgg = false ∧ VR E v [c]))
  | .nilI, cs => cs = [.nilIface]
  | .tuple l, cs => ∃ xs, cs = [.tuple xs] ∧ TVl E l xs.toList
  | .map g, cs => g < E.N ∧ ∃ b off, (E.loc g).addr = some (b, off) ∧ cs = [.map (some b)]
  | .nilM, cs => cs = [.map none]
def VRs (E : Emb) : List AV → List Value → Prop
  | [], cs => cs = []
  | v :: r, cs => ∃ c1 c2, cs = c1 ++ c2 ∧ VR E v c1 ∧ VRs E r c2
def SR (E : Emb) (b sz off : Nat) : List AV → Prop
  | [] => True
  | v :: r => (∃ cs, cs.length = sz ∧ (∀ j, j < sz → E.cell b (off + j) = cs[j]?) ∧ VR E v cs) ∧ SR E b sz (off + sz) r
def TVl (E : Emb) : List AV → List Value → Prop
  | [], cs => cs = []
  | v :: r, cs => ∃ c cr, cs = c :: cr ∧ ((v.isAgg = true ∧ ∃ xs, VR E v xs ∧ c = .agg xs.toArray) ∨ (v.isAgg = false ∧ VR E v [c])) ∧ TVl E r cr
end

def TV (E : Emb) (v : AV) (c : Value) : Prop :=
  (v.isAgg = true ∧ ∃ xs, VR E v xs ∧ c = .agg xs.toArray) ∨ (v.isAgg = false ∧ VR E v [c])

mutual
theorem VR_len {E : Emb} : ∀ (v : AV) (cs : List Value), VR E v cs → cs.length = v.size
  | .agg l, cs, h => by unfold VR at h; unfold AV.size; exact VRs_len l cs h
  | .undef, cs, h => by simp [VR] at h; simp [h, AV.size]
  | .int .., cs, h => by simp [VR] at h; simp [h, AV.size]
  | .bool .., cs, h => by simp [VR] at h; simp [h, AV.size]
  | .str .., cs, h => by simp [VR] at h; simp [h, AV.size]
  | .iarr .., cs, h => by simp [VR] at h; simp [h, AV.size]
  | .nilS, cs, h => by simp [VR] at h; simp [h, AV.size]
  | .isl .., cs, h => by simp only [VR] at h; obtain ⟨a, c, rfl, _⟩ := h; simp [AV.size]
  | .dsl .., cs, h => by simp only [VR] at h; obtain ⟨a, c, rfl, _⟩ := h; simp [AV.size]
  | .own .., cs, h => by simp only [VR] at h; obtain ⟨_, a, c, rfl, _⟩ := h; simp [AV.size]
  | .asl .., cs, h => by simp only [VR] at h; obtain ⟨_, _, a, rfl, _⟩ := h; simp [AV.size]
  | .ptr .., cs, h => by simp only [VR] at h; obtain ⟨_, a, c, _, rfl⟩ := h; simp [AV.size]
  | .pix .., cs, h => by simp only [VR] at h; obtain ⟨_, _, a, c, _, rfl⟩ := h; simp [AV.size]
  | .pel .., cs, h => by simp only [VR] at h; obtain ⟨_, a, c, _, rfl⟩ := h; simp [AV.size]
  | .pval .., cs, h => by simp only [VR] at h; obtain ⟨_, _, _, rfl, _⟩ := h; simp [AV.size]
  | .nilP, cs, h => by simp [VR] at h; simp [h, AV.size]
  | .func .., cs, h => by simp only [VR] at h; obtain ⟨_, _, rfl, _⟩ := h; simp [AV.size]
  | .nilF, cs, h => by simp [VR] at h; simp [h, AV.size]
  | .iface .., cs, h => by simp only [VR] at h; obtain ⟨_, rfl, _⟩ := h; simp [AV.size]
  | .nilI, cs, h => by simp [VR] at h; simp [h, AV.size]
  | .tuple .., cs, h => by simp only [VR] at h; obtain ⟨_, rfl, _⟩ := h; simp [AV.size]
  | .map .., cs, h => by simp only [VR] at h; obtain ⟨_, _, _, _, rfl⟩ := h; simp [AV.size]
  | .nilM, cs, h => by simp [VR] at h; simp [h, AV.size]
theorem VRs_len {E : Emb} : ∀ (l : List AV) (cs : List Value), VRs E l cs → cs.length = AV.sizes l
  | [], cs, h => by simp [VRs] at h; simp [h, AV.sizes]
  | v :: r, cs, h => by
    simp only [VRs] at h
    obtain ⟨c1, c2, rfl, h1, h2⟩ := h
    simp [AV.sizes, VR_len v c1 h1, VRs_len r c2 h2]
end

mutual
theorem VR_mono0 {E E' : Emb} (hE : E.Le0 E') : ∀ (v : AV) (cs : List Value), VR E v cs → VR E' v cs
  | .agg l, cs, h => by unfold VR at h ⊢; exact VRs_mono0 hE l cs h
  | .undef, cs, h => by simpa only [VR] using h
  | .int .., cs, h => by simpa only [VR] using h
  | .bool .., cs, h => by simpa only [VR] using h
  | .str .., cs, h => by simpa only [VR] using h
  | .iarr .., cs, h => by simpa only [VR] using h
  | .nilS, cs, h => by simpa only [VR] using h
  | .isl .., cs, h => by
    simp only [VR] at h ⊢
    obtain ⟨a, c, e, hl, h⟩ := h
    exact ⟨a, c, e, hl, fun hp => let ⟨b, o, ha, hc⟩ := h hp; ⟨b, o, ha, fun j hj => hE.cell (hc j hj)⟩⟩
  | .dsl _ l, cs, h => by
    simp only [VR] at h ⊢
    obtain ⟨a, c, e, hl, h⟩ := h
    exact ⟨a, c, e, hl, fun hp => let ⟨b, o, ha, hc⟩ := h hp; ⟨b, o, ha, SR_mono0 hE l hc⟩⟩
  | .own g i n, cs, h => by
    simp only [VR] at h ⊢
    obtain ⟨hg, r⟩ := h
    rw [hE.loc g hg]
    exact ⟨Nat.lt_of_lt_of_le hg hE.n, r⟩
  | .asl g .., cs, h => by
    simp only [VR] at h ⊢
    obtain ⟨hg, r⟩ := h
    rw [hE.loc g hg]
    exact ⟨Nat.lt_of_lt_of_le hg hE.n, r⟩
  | .ptr g _, cs, h => by
    simp only [VR] at h ⊢
    obtain ⟨hg, r⟩ := h
    rw [hE.loc g hg]
    exact ⟨Nat.lt_of_lt_of_le hg hE.n, r⟩
  | .pix g .., cs, h => by
    simp only [VR] at h ⊢
    obtain ⟨hg, r⟩ := h
    rw [hE.loc g hg]
    exact ⟨Nat.lt_of_lt_of_le hg hE.n, r⟩
  | .pel g .., cs, h => by
    simp only [VR] at h ⊢
    obtain ⟨hg, r⟩ := h
    rw [hE.loc g hg]
    exact ⟨Nat.lt_of_lt_of_le hg hE.n, r⟩
  | .map g, cs, h => by
    simp only [VR] at h ⊢
    obtain ⟨hg, r⟩ := h
    rw [hE.loc g hg]
    exact ⟨Nat.lt_of_lt_of_le hg hE.n, r⟩
  | .pval v, cs, h => by
    simp only [VR] at h ⊢
    obtain ⟨b, o, xs, e, hl, hc, hv⟩ := h
    refine ⟨b, o, xs, e, hl, fun j hj => ?_, VR_mono0 hE v xs hv⟩
    have := hc j hj
    rw [List.getElem?_eq_getElem (by omega)] at this ⊢
    exact hE.cell this
  | .nilP, cs, h => by simpa only [VR] using h
  | .func _ first cap, cs, h => by
    simp only [VR] at h ⊢
    obtain ⟨x, y, e, h1, h2⟩ := h
    exact ⟨x, y, e, TVl_mono0 hE first _ h1, TVl_mono0 hE cap _ h2⟩
  | .nilF, cs, h => by simpa only [VR] using h
  | .iface _ v, cs, h => by
    simp only [VR] at h ⊢
    obtain ⟨c, e, h⟩ := h
    refine ⟨c, e, h.imp (fun ⟨a, xs, hx, hc⟩ => ⟨a, xs, VR_mono0 hE v _ hx, hc⟩) fun ⟨a, hx⟩ => ⟨a, VR_mono0 hE v _ hx⟩⟩
  | .nilI, cs, h => by simpa only [VR] using h
  | .tuple l, cs, h => by
    simp only [VR] at h ⊢
    obtain ⟨x, e, h1⟩ := h
    exact ⟨x, e, TVl_mono0 hE l _ h1⟩
  | .nilM, cs, h => by simpa only [VR] using h
theorem VRs_mono0 {E E' : Emb} (hE : E.Le0 E') : ∀ (l : List AV) (cs : List Value), VRs E l cs → VRs E' l cs
  | [], cs, h => by simpa only [VRs] using h
  | v :: r, cs, h => by
    simp only [VRs] at h ⊢
    obtain ⟨c1, c2, e, h1, h2⟩ := h
    exact ⟨c1, c2, e, VR_mono0 hE v c1 h1, VRs_mono0 hE r c2 h2⟩
theorem SR_mono0 {E E' : Emb} (hE : E.Le0 E') {b sz : Nat} : ∀ (l : List AV) {off : Nat}, SR E b sz off l → SR E' b sz off l
  | [], _, h => by simp [SR]
  | v :: r, off, h => by
    simp only [SR] at h ⊢
    obtain ⟨⟨cs, hl, hc, hv⟩, hr⟩ := h
    refine ⟨⟨cs, hl, fun j hj => ?_, VR_mono0 hE v cs hv⟩, SR_mono0 hE r hr⟩
    have := hc j hj
    rw [List.getElem?_eq_getElem (by omega)] at this ⊢
    exact hE.cell this
theorem TVl_mono0 {E E' : Emb} (hE : E.Le0 E') : ∀ (l : List AV) (cs : List Value), TVl E l cs → TVl E' l cs
  | [], cs, h => by simpa only [TVl] using h
  | v :: r, cs, h => by
    simp only [TVl] at h ⊢
    obtain ⟨c, cr, e, h, h2⟩ := h
    exact ⟨c, cr, e, h.imp (fun ⟨a, xs, hx, hc⟩ => ⟨a, xs, VR_mono0 hE v _ hx, hc⟩) fun ⟨a, hx⟩ => ⟨a, VR_mono0 hE v _ hx⟩, TVl_mono0 hE r _ h2⟩
end
theorem Emb.Le.cell {E E' : Emb} (h : E.Le E') {b off : Nat} {v : Value} (hc : E.cell b off = some v) : E'.cell b off = some v := h.to0.cell hc
theorem VR_mono {E E' : Emb} (hE : E.Le E') (v : AV) (cs : List Value) (h : VR E v cs) : VR E' v cs := VR_mono0 hE.to0 v cs h
theorem VRs_mono {E E' : Emb} (hE : E.Le E') (l : List AV) (cs : List Value) (h : VRs E l cs) : VRs E' l cs := VRs_mono0 hE.to0 l cs h
theorem SR_mono {E E' : Emb} (hE : E.Le E') {b sz : Nat} (l : List AV) {off : Nat} (h : SR E b sz off l) : SR E' b sz off l := SR_mono0 hE.to0 l h
theorem TVl_mono {E E' : Emb} (hE : E.Le E') (l : List AV) (cs : List Value) (h : TVl E l cs) : TVl E' l cs := TVl_mono0 hE.to0 l cs h
theorem TV_mono {E E' : Emb} (hE : E.Le E') {v : AV} {c : Value} (h : TV E v c) : TV E' v c :=
  h.imp (fun ⟨a, xs, hx, hc⟩ => ⟨a, xs, VR_mono hE v _ hx, hc⟩) fun ⟨a, hx⟩ => ⟨a, VR_mono hE v _ hx⟩

theorem TV.agg {E : Emb} {v : AV} {xs : List Value} (hv : v.isAgg = true) (h : VR E v xs) : TV E v (.agg xs.toArray) := .inl ⟨hv, xs, h, rfl⟩
theorem TV.sc {E : Emb} {v : AV} {c : Value} (hv : v.isAgg = false) (h : VR E v [c]) : TV E v c := .inr ⟨hv, h⟩
def AV.ok : AV → Bool
  | .undef => false
  | _ => true
theorem VR_cells {E : Emb} {v : AV} {c : Value} (hv : v.isAgg = false) (ho : v.ok = true) (h : VR E v [c]) : c.cells = #[c] ∧ c.oneCell' = true ∨ ∃ xs, c = .tuple xs := by
  cases v <;> simp only [VR, AV.isAgg, AV.ok, Bool.false_eq_true, Bool.true_eq_false] at hv ho h
  case own => obtain ⟨_, _, _, h, _⟩ := h; injection h with h; subst h; exact .inl ⟨rfl, rfl⟩
  case asl => obtain ⟨_, _, _, h, _⟩ := h; injection h with h; subst h; exact .inl ⟨rfl, rfl⟩
  case pix => obtain ⟨_, _, _, _, _, h⟩ := h; injection h with h; subst h; exact .inl ⟨rfl, rfl⟩
  case ptr => obtain ⟨_, _, _, _, h⟩ := h; injection h with h; subst h; exact .inl ⟨rfl, rfl⟩
  case pel => obtain ⟨_, _, _, _, h⟩ := h; injection h with h; subst h; exact .inl ⟨rfl, rfl⟩
  case map => obtain ⟨_, _, _, _, h⟩ := h; injection h with h; subst h; exact .inl ⟨rfl, rfl⟩
  case isl => obtain ⟨_, _, h, _⟩ := h; injection h with h; subst h; exact .inl ⟨rfl, rfl⟩
  case dsl => obtain ⟨_, _, h, _⟩ := h; injection h with h; subst h; exact .inl ⟨rfl, rfl⟩
  case func => obtain ⟨_, _, h, _⟩ := h; injection h with h; subst h; exact .inl ⟨rfl, rfl⟩
  case pval => obtain ⟨_, _, _, h, _⟩ := h; injection h with h; subst h; exact .inl ⟨rfl, rfl⟩
  case iface => obtain ⟨_, h, _⟩ := h; injection h with h; subst h; exact .inl ⟨rfl, rfl⟩
  case tuple => obtain ⟨_, h, _⟩ := h; injection h with h; subst h; exact .inr ⟨_, rfl⟩
  all_goals (injection h with h; subst h; exact .inl ⟨rfl, rfl⟩)
end AVL
