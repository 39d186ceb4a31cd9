/- Texts of this claim, in order: Va Vb Vc Vd Ve Vf Vg Vh Vi Vj Vk Vl Vm Vjz Vlc. -/
import Derived.Below
import Derived.Tactics
import Derived.Laws.Rows
import Derived.Laws.CopyRow
import Derived.Laws.Entries
import Derived.ChangeKeysEq
import Derived.Laws.Build
import Derived.Laws.Tables
import Derived.Laws.Append
import Derived.Laws.AppendOwn
import Derived.Laws.MakeOwn
import Derived.Laws.StructEq
/- Abstract values for Go programs, and what it means that a machine value stands for one. -/
namespace AVL
open Go

inductive AV where
  | undef
  | int (k : IntKind) (n : Int)
  | bool (b : Bool)
  | str (s : ByteArray)
  | agg (l : List AV)
  | iarr (k : IntKind) (n : Nat) (l : List Int)
  | nilS
  | isl (k : IntKind) (l : List Int)
  | dsl (sz : Nat) (l : List AV)
  | own (g i n : Nat)
  | asl (g o m i n : Nat)
  | ptr (g o : Nat)
  | pix (g o m i : Nat)
  | pel (g i o : Nat)
  | pval (v : AV)
  | nilP
  | func (fn : Fn) (first cap : List AV)
  | nilF
  | iface (t : TypeId) (v : AV)
  | nilI
  | tuple (l : List AV)
  | map (g : Nat)
  | nilM
  deriving Inhabited

def AV.isAgg : AV → Bool
  | .agg _ | .iarr .. => true
  | _ => false

mutual
def AV.size : AV → Nat
  | .agg l => AV.sizes l
  | .iarr _ n _ => n
  | _ => 1
def AV.sizes : List AV → Nat
  | [] => 0
  | v :: r => v.size + AV.sizes r
end

structure Loc where
  addr : Option (Nat × Nat)
  sz : Nat
  room : Nat

structure Emb where
  loc : Nat → Loc
  N : Nat
  F : Nat → Option Obj
  lo : Nat := 0
  H : Nat → Option Obj := fun _ => none

def Emb.cell (E : Emb) (b off : Nat) : Option Value :=
  match E.F b with
  | some (.cells c _ _) => c[off]?
  | _ => none

/-- What function a name of a function is: a round's is of its record's block. -/
def Emb.fn (E : Emb) : Fn → Option Fn
  | .yield g => if g < E.N then match (E.loc g).addr with
    | some (b, 0) => some (.yield b)
    | _ => none
    else none
  | f => some f
structure Emb.Le0 (E E' : Emb) : Prop where
  n : E.N ≤ E'.N
  loc : ∀ g, g < E.N → E'.loc g = E.loc g
  F : ∀ b o, E.F b = some o → E'.F b = some o
structure Emb.Le (E E' : Emb) : Prop where
  n : E.N ≤ E'.N
  loc : ∀ g, g < E.N → E'.loc g = E.loc g
  F : ∀ b o, E.F b = some o → E'.F b = some o
  lo : E'.lo = E.lo
  H : ∀ b o, E.H b = some o → E'.H b = some o

theorem Emb.Le.refl (E : Emb) : E.Le E := ⟨Nat.le_refl _, fun _ _ => rfl, fun _ _ h => h, rfl, fun _ _ h => h⟩
theorem Emb.Le.trans {a b c : Emb} (h : a.Le b) (k : b.Le c) : a.Le c :=
  ⟨Nat.le_trans h.n k.n, fun g hg => (k.loc g (Nat.lt_of_lt_of_le hg h.n)).trans (h.loc g hg), fun b o hb => k.F b o (h.F b o hb), k.lo.trans h.lo, fun b o hb => k.H b o (h.H b o hb)⟩
theorem Emb.fn_mono {E E' : Emb} (h : E.Le0 E') {f k : Fn} (hf : E.fn f = some k) : E'.fn f = some k := by
  cases f with
  | yield g =>
    simp only [Emb.fn] at hf ⊢
    split at hf
    · rename_i hg
      rw [if_pos (Nat.lt_of_lt_of_le hg h.n), h.loc g hg]; exact hf
    · cases hf
  | _ => exact hf
theorem Emb.Le.to0 {E E' : Emb} (h : E.Le E') : E.Le0 E' := ⟨h.n, h.loc, h.F⟩
theorem Emb.Le0.cell {E E' : Emb} (h : E.Le0 E') {b off : Nat} {v : Value} (hc : E.cell b off = some v) : E'.cell b off = some v := by
  unfold Emb.cell at *
  cases hf : E.F b with
  | none => rw [hf] at hc; simp at hc
  | some o => rw [hf] at hc; rw [h.F b o hf]; exact hc

def pA (b off : Nat) : Addr := ⟨b, off, none⟩
theorem pA_add (b off n : Nat) : (pA b off).add n = pA b (off + n) := by
  unfold pA Addr.add; split <;> simp_all

mutual
def VR (E : Emb) : AV → List Value → Prop
  | .undef, cs => cs = [Go.undef]
  | .int k n, cs => cs = [.int k n]
  | .bool b, cs => cs = [.bool b]
  | .str s, cs => cs = [.string s]
  | .agg l, cs => VRs E l cs
  | .iarr k n l, cs => cs = (List.range n).map (fun j => .int k (l.getD j 0))
  | .nilS, cs => cs = [.slice none 0 0]
  | .isl k l, cs => ∃ a cap, cs = [.slice a l.length cap] ∧ l.length ≤ cap ∧ (0 < l.length → ∃ b off, a = some (pA b off) ∧ ∀ j, j < l.length → E.cell b (off + j) = some (.int k (l.getD j 0)))
  | .dsl sz l, cs => ∃ a cap, cs = [.slice a l.length cap] ∧ l.length ≤ cap ∧ (0 < l.length → ∃ b off, a = some (pA b off) ∧ SR E b sz off l)
  | .own g i n, cs => g < E.N ∧ ∃ a cap, cs = [.slice a n cap] ∧ n ≤ cap ∧ i + cap ≤ (E.loc g).room ∧
      (cap = 0 ∨ ∃ b off, (E.loc g).addr = some (b, off) ∧ a = some (pA b (off + i * (E.loc g).sz)))
  | .asl g o m i n, cs => g < E.N ∧ i + n ≤ m ∧ ∃ a, cs = [.slice a n (m - i)] ∧ (m = i ∨ ∃ b off, (E.loc g).addr = some (b, off) ∧ a = some (pA b (off + o + i)))
  | .ptr g o, cs => g < E.N ∧ ∃ b off, (E.loc g).addr = some (b, off) ∧ cs = [.pointer (some (pA b (off + o)))]
  | .pix g o m i, cs => g < E.N ∧ i < m ∧ ∃ b off, (E.loc g).addr = some (b, off) ∧ cs = [.pointer (some (pA b (off + o + i)))]
  | .pel g i o, cs => g < E.N ∧ ∃ b off, (E.loc g).addr = some (b, off) ∧ cs = [.pointer (some (pA b (off + i * (E.loc g).sz + o)))]
  | .pval v, cs => ∃ b off xs, cs = [.pointer (some (pA b off))] ∧ xs.length = v.size ∧ (∀ j, j < v.size → E.cell b (off + j) = xs[j]?) ∧ VR E v xs
  | .nilP, cs => cs = [.pointer none]
  | .func fn first cap, cs => ∃ xs ys, (∃ k, E.fn fn = some k ∧ cs = [.func k xs ys]) ∧ TVl E first xs.toList ∧ TVl E cap ys.toList
  | .nilF, cs => cs = [.nilFunc]
  | .iface t v, cs => ∃ c, cs = [.iface t c] ∧ ((v.isAgg = true ∧ ∃ xs, VR E v xs ∧ c = .agg xs.toArray) ∨ (v.isAgg = false ∧ VR E v [c]))
  | .nilI, cs => cs = [.nilIface]
  | .tuple l, cs => ∃ xs, cs = [.tuple xs] ∧ TVl E l xs.toList
  | .map g, cs => g < E.N ∧ ∃ b off, (E.loc g).addr = some (b, off) ∧ cs = [.map (some b)]
  | .nilM, cs => cs = [.map none]
def VRs (E : Emb) : List AV → List Value → Prop
  | [], cs => cs = []
  | v :: r, cs => ∃ c1 c2, cs = c1 ++ c2 ∧ VR E v c1 ∧ VRs E r c2
def SR (E : Emb) (b sz off : Nat) : List AV → Prop
  | [] => True
  | v :: r => (∃ cs, cs.length = sz ∧ (∀ j, j < sz → E.cell b (off + j) = cs[j]?) ∧ VR E v cs) ∧ SR E b sz (off + sz) r
def TVl (E : Emb) : List AV → List Value → Prop
  | [], cs => cs = []
  | v :: r, cs => ∃ c cr, cs = c :: cr ∧ ((v.isAgg = true ∧ ∃ xs, VR E v xs ∧ c = .agg xs.toArray) ∨ (v.isAgg = false ∧ VR E v [c])) ∧ TVl E r cr
end

def TV (E : Emb) (v : AV) (c : Value) : Prop :=
  (v.isAgg = true ∧ ∃ xs, VR E v xs ∧ c = .agg xs.toArray) ∨ (v.isAgg = false ∧ VR E v [c])

mutual
theorem VR_len {E : Emb} : ∀ (v : AV) (cs : List Value), VR E v cs → cs.length = v.size
  | .agg l, cs, h => by unfold VR at h; unfold AV.size; exact VRs_len l cs h
  | .undef, cs, h => by simp [VR] at h; simp [h, AV.size]
  | .int .., cs, h => by simp [VR] at h; simp [h, AV.size]
  | .bool .., cs, h => by simp [VR] at h; simp [h, AV.size]
  | .str .., cs, h => by simp [VR] at h; simp [h, AV.size]
  | .iarr .., cs, h => by simp [VR] at h; simp [h, AV.size]
  | .nilS, cs, h => by simp [VR] at h; simp [h, AV.size]
  | .isl .., cs, h => by simp only [VR] at h; obtain ⟨a, c, rfl, _⟩ := h; simp [AV.size]
  | .dsl .., cs, h => by simp only [VR] at h; obtain ⟨a, c, rfl, _⟩ := h; simp [AV.size]
  | .own .., cs, h => by simp only [VR] at h; obtain ⟨_, a, c, rfl, _⟩ := h; simp [AV.size]
  | .asl .., cs, h => by simp only [VR] at h; obtain ⟨_, _, a, rfl, _⟩ := h; simp [AV.size]
  | .ptr .., cs, h => by simp only [VR] at h; obtain ⟨_, a, c, _, rfl⟩ := h; simp [AV.size]
  | .pix .., cs, h => by simp only [VR] at h; obtain ⟨_, _, a, c, _, rfl⟩ := h; simp [AV.size]
  | .pel .., cs, h => by simp only [VR] at h; obtain ⟨_, a, c, _, rfl⟩ := h; simp [AV.size]
  | .pval .., cs, h => by simp only [VR] at h; obtain ⟨_, _, _, rfl, _⟩ := h; simp [AV.size]
  | .nilP, cs, h => by simp [VR] at h; simp [h, AV.size]
  | .func .., cs, h => by simp only [VR] at h; obtain ⟨_, _, ⟨_, _, rfl⟩, _⟩ := h; simp [AV.size]
  | .nilF, cs, h => by simp [VR] at h; simp [h, AV.size]
  | .iface .., cs, h => by simp only [VR] at h; obtain ⟨_, rfl, _⟩ := h; simp [AV.size]
  | .nilI, cs, h => by simp [VR] at h; simp [h, AV.size]
  | .tuple .., cs, h => by simp only [VR] at h; obtain ⟨_, rfl, _⟩ := h; simp [AV.size]
  | .map .., cs, h => by simp only [VR] at h; obtain ⟨_, _, _, _, rfl⟩ := h; simp [AV.size]
  | .nilM, cs, h => by simp [VR] at h; simp [h, AV.size]
theorem VRs_len {E : Emb} : ∀ (l : List AV) (cs : List Value), VRs E l cs → cs.length = AV.sizes l
  | [], cs, h => by simp [VRs] at h; simp [h, AV.sizes]
  | v :: r, cs, h => by
    simp only [VRs] at h
    obtain ⟨c1, c2, rfl, h1, h2⟩ := h
    simp [AV.sizes, VR_len v c1 h1, VRs_len r c2 h2]
end

mutual
theorem VR_mono0 {E E' : Emb} (hE : E.Le0 E') : ∀ (v : AV) (cs : List Value), VR E v cs → VR E' v cs
  | .agg l, cs, h => by unfold VR at h ⊢; exact VRs_mono0 hE l cs h
  | .undef, cs, h => by simpa only [VR] using h
  | .int .., cs, h => by simpa only [VR] using h
  | .bool .., cs, h => by simpa only [VR] using h
  | .str .., cs, h => by simpa only [VR] using h
  | .iarr .., cs, h => by simpa only [VR] using h
  | .nilS, cs, h => by simpa only [VR] using h
  | .isl .., cs, h => by
    simp only [VR] at h ⊢
    obtain ⟨a, c, e, hl, h⟩ := h
    exact ⟨a, c, e, hl, fun hp => let ⟨b, o, ha, hc⟩ := h hp; ⟨b, o, ha, fun j hj => hE.cell (hc j hj)⟩⟩
  | .dsl _ l, cs, h => by
    simp only [VR] at h ⊢
    obtain ⟨a, c, e, hl, h⟩ := h
    exact ⟨a, c, e, hl, fun hp => let ⟨b, o, ha, hc⟩ := h hp; ⟨b, o, ha, SR_mono0 hE l hc⟩⟩
  | .own g i n, cs, h => by
    simp only [VR] at h ⊢
    obtain ⟨hg, r⟩ := h
    rw [hE.loc g hg]
    exact ⟨Nat.lt_of_lt_of_le hg hE.n, r⟩
  | .asl g .., cs, h => by
    simp only [VR] at h ⊢
    obtain ⟨hg, r⟩ := h
    rw [hE.loc g hg]
    exact ⟨Nat.lt_of_lt_of_le hg hE.n, r⟩
  | .ptr g _, cs, h => by
    simp only [VR] at h ⊢
    obtain ⟨hg, r⟩ := h
    rw [hE.loc g hg]
    exact ⟨Nat.lt_of_lt_of_le hg hE.n, r⟩
  | .pix g .., cs, h => by
    simp only [VR] at h ⊢
    obtain ⟨hg, r⟩ := h
    rw [hE.loc g hg]
    exact ⟨Nat.lt_of_lt_of_le hg hE.n, r⟩
  | .pel g .., cs, h => by
    simp only [VR] at h ⊢
    obtain ⟨hg, r⟩ := h
    rw [hE.loc g hg]
    exact ⟨Nat.lt_of_lt_of_le hg hE.n, r⟩
  | .map g, cs, h => by
    simp only [VR] at h ⊢
    obtain ⟨hg, r⟩ := h
    rw [hE.loc g hg]
    exact ⟨Nat.lt_of_lt_of_le hg hE.n, r⟩
  | .pval v, cs, h => by
    simp only [VR] at h ⊢
    obtain ⟨b, o, xs, e, hl, hc, hv⟩ := h
    refine ⟨b, o, xs, e, hl, fun j hj => ?_, VR_mono0 hE v xs hv⟩
    have := hc j hj
    rw [List.getElem?_eq_getElem (by omega)] at this ⊢
    exact hE.cell this
  | .nilP, cs, h => by simpa only [VR] using h
  | .func _ first cap, cs, h => by
    simp only [VR] at h ⊢
    obtain ⟨x, y, ⟨k, hk, e⟩, h1, h2⟩ := h
    exact ⟨x, y, ⟨k, Emb.fn_mono hE hk, e⟩, TVl_mono0 hE first _ h1, TVl_mono0 hE cap _ h2⟩
  | .nilF, cs, h => by simpa only [VR] using h
  | .iface _ v, cs, h => by
    simp only [VR] at h ⊢
    obtain ⟨c, e, h⟩ := h
    refine ⟨c, e, h.imp (fun ⟨a, xs, hx, hc⟩ => ⟨a, xs, VR_mono0 hE v _ hx, hc⟩) fun ⟨a, hx⟩ => ⟨a, VR_mono0 hE v _ hx⟩⟩
  | .nilI, cs, h => by simpa only [VR] using h
  | .tuple l, cs, h => by
    simp only [VR] at h ⊢
    obtain ⟨x, e, h1⟩ := h
    exact ⟨x, e, TVl_mono0 hE l _ h1⟩
  | .nilM, cs, h => by simpa only [VR] using h
theorem VRs_mono0 {E E' : Emb} (hE : E.Le0 E') : ∀ (l : List AV) (cs : List Value), VRs E l cs → VRs E' l cs
  | [], cs, h => by simpa only [VRs] using h
  | v :: r, cs, h => by
    simp only [VRs] at h ⊢
    obtain ⟨c1, c2, e, h1, h2⟩ := h
    exact ⟨c1, c2, e, VR_mono0 hE v c1 h1, VRs_mono0 hE r c2 h2⟩
theorem SR_mono0 {E E' : Emb} (hE : E.Le0 E') {b sz : Nat} : ∀ (l : List AV) {off : Nat}, SR E b sz off l → SR E' b sz off l
  | [], _, h => by simp [SR]
  | v :: r, off, h => by
    simp only [SR] at h ⊢
    obtain ⟨⟨cs, hl, hc, hv⟩, hr⟩ := h
    refine ⟨⟨cs, hl, fun j hj => ?_, VR_mono0 hE v cs hv⟩, SR_mono0 hE r hr⟩
    have := hc j hj
    rw [List.getElem?_eq_getElem (by omega)] at this ⊢
    exact hE.cell this
theorem TVl_mono0 {E E' : Emb} (hE : E.Le0 E') : ∀ (l : List AV) (cs : List Value), TVl E l cs → TVl E' l cs
  | [], cs, h => by simpa only [TVl] using h
  | v :: r, cs, h => by
    simp only [TVl] at h ⊢
    obtain ⟨c, cr, e, h, h2⟩ := h
    exact ⟨c, cr, e, h.imp (fun ⟨a, xs, hx, hc⟩ => ⟨a, xs, VR_mono0 hE v _ hx, hc⟩) fun ⟨a, hx⟩ => ⟨a, VR_mono0 hE v _ hx⟩, TVl_mono0 hE r _ h2⟩
end
theorem Emb.Le.cell {E E' : Emb} (h : E.Le E') {b off : Nat} {v : Value} (hc : E.cell b off = some v) : E'.cell b off = some v := h.to0.cell hc
theorem VR_mono {E E' : Emb} (hE : E.Le E') (v : AV) (cs : List Value) (h : VR E v cs) : VR E' v cs := VR_mono0 hE.to0 v cs h
theorem VRs_mono {E E' : Emb} (hE : E.Le E') (l : List AV) (cs : List Value) (h : VRs E l cs) : VRs E' l cs := VRs_mono0 hE.to0 l cs h
theorem SR_mono {E E' : Emb} (hE : E.Le E') {b sz : Nat} (l : List AV) {off : Nat} (h : SR E b sz off l) : SR E' b sz off l := SR_mono0 hE.to0 l h
theorem TVl_mono {E E' : Emb} (hE : E.Le E') (l : List AV) (cs : List Value) (h : TVl E l cs) : TVl E' l cs := TVl_mono0 hE.to0 l cs h
theorem TV_mono {E E' : Emb} (hE : E.Le E') {v : AV} {c : Value} (h : TV E v c) : TV E' v c :=
  h.imp (fun ⟨a, xs, hx, hc⟩ => ⟨a, xs, VR_mono hE v _ hx, hc⟩) fun ⟨a, hx⟩ => ⟨a, VR_mono hE v _ hx⟩

theorem TV.agg {E : Emb} {v : AV} {xs : List Value} (hv : v.isAgg = true) (h : VR E v xs) : TV E v (.agg xs.toArray) := .inl ⟨hv, xs, h, rfl⟩
theorem TV.sc {E : Emb} {v : AV} {c : Value} (hv : v.isAgg = false) (h : VR E v [c]) : TV E v c := .inr ⟨hv, h⟩
def AV.ok : AV → Bool
  | .undef => false
  | _ => true
theorem VR_cells {E : Emb} {v : AV} {c : Value} (hv : v.isAgg = false) (ho : v.ok = true) (h : VR E v [c]) : c.cells = #[c] ∧ c.oneCell' = true ∨ ∃ xs, c = .tuple xs := by
  cases v <;> simp only [VR, AV.isAgg, AV.ok, Bool.false_eq_true, Bool.true_eq_false] at hv ho h
  case own => obtain ⟨_, _, _, h, _⟩ := h; injection h with h; subst h; exact .inl ⟨rfl, rfl⟩
  case asl => obtain ⟨_, _, _, h, _⟩ := h; injection h with h; subst h; exact .inl ⟨rfl, rfl⟩
  case pix => obtain ⟨_, _, _, _, _, h⟩ := h; injection h with h; subst h; exact .inl ⟨rfl, rfl⟩
  case ptr => obtain ⟨_, _, _, _, h⟩ := h; injection h with h; subst h; exact .inl ⟨rfl, rfl⟩
  case pel => obtain ⟨_, _, _, _, h⟩ := h; injection h with h; subst h; exact .inl ⟨rfl, rfl⟩
  case map => obtain ⟨_, _, _, _, h⟩ := h; injection h with h; subst h; exact .inl ⟨rfl, rfl⟩
  case isl => obtain ⟨_, _, h, _⟩ := h; injection h with h; subst h; exact .inl ⟨rfl, rfl⟩
  case dsl => obtain ⟨_, _, h, _⟩ := h; injection h with h; subst h; exact .inl ⟨rfl, rfl⟩
  case func => obtain ⟨_, _, ⟨_, _, h⟩, _⟩ := h; injection h with h; subst h; exact .inl ⟨rfl, rfl⟩
  case pval => obtain ⟨_, _, _, h, _⟩ := h; injection h with h; subst h; exact .inl ⟨rfl, rfl⟩
  case iface => obtain ⟨_, h, _⟩ := h; injection h with h; subst h; exact .inl ⟨rfl, rfl⟩
  case tuple => obtain ⟨_, h, _⟩ := h; injection h with h; subst h; exact .inr ⟨_, rfl⟩
  all_goals (injection h with h; subst h; exact .inl ⟨rfl, rfl⟩)
end AVL

/- The abstract heap, what it means that a world holds it, and how it grows and changes. -/
namespace AVL
open Go

/-- How a round was left, other than at its end. -/
inductive Jmp where
  | ret
  | exit (id : Nat)
def Jmp.code : Jmp → Code
  | .ret => .ret
  | .exit id => .exit id
inductive LSt where
  | ready
  | busy
  | done (j : Jmp)
def LSt.st : LSt → LoopState
  | .ready => .ready
  | .busy => .busy
  | .done _ => .done
def LSt.pend : LSt → Option Code
  | .done j => some j.code
  | _ => none
inductive Cont where
  | var (t : TypeId) (l : List AV)
  | irow (t : TypeId) (k : IntKind) (l : List Int)
  | row (t : TypeId) (sz : Nat) (l : List AV)
  | mp (k : IntKind) (l : List (Int × AV))
  | srow (t : TypeId) (k : IntKind) (l : List Int)
  | lp (en : List AV) (ps : List Nat) (asg body : Code) (s : LSt)

abbrev Heap := Nat → Option Cont
def Heap.set (A : Heap) (g : Nat) (c : Cont) : Heap := fun x => if x = g then some c else A x
def Heap.del (A : Heap) (g : Nat) : Heap := fun x => if x = g then none else A x
theorem Heap.set_same (A : Heap) (g : Nat) (c : Cont) : A.set g c g = some c := by simp [Heap.set]
theorem Heap.set_ne (A : Heap) {g x : Nat} (c : Cont) (h : x ≠ g) : A.set g c x = A x := by simp [Heap.set, h]
def Heap.Sub (A B : Heap) : Prop := ∀ g c, A g = some c → B g = some c

structure Same (w w' : World) : Prop where
  os : w'.os = w.os
  output : w'.output = w.output
  size : w.heap.size ≤ w'.heap.size
theorem Same.refl (w : World) : Same w w := ⟨rfl, rfl, Nat.le_refl _⟩
theorem Same.trans {a b c : World} (h : Same a b) (k : Same b c) : Same a c :=
  ⟨k.os.trans h.os, k.output.trans h.output, Nat.le_trans h.size k.size⟩
theorem Same.alloc (w : World) (o : Obj) : Same w (w.alloc o) := ⟨rfl, rfl, by show w.heap.size ≤ (w.heap.push o).size; simp⟩

/-- A block of cells; none of them is marked. -/
def Blk (w : World) (b : Nat) (C : Array Value) (t : TypeId) : Prop := ∃ fz : Nat × Nat, w.heap[b]? = some (.cells C t fz) ∧ (C.size ≤ fz.1 ∨ fz.1 = fz.2)
theorem Blk.of0 {w : World} {b : Nat} {C : Array Value} {t : TypeId} (h : w.heap[b]? = some (.cells C t (0, 0))) : Blk w b C t := ⟨_, h, .inr rfl⟩
theorem Blk.lt {w : World} {b : Nat} {C : Array Value} {t : TypeId} (h : Blk w b C t) : b < w.heap.size := by
  obtain ⟨fz, h, _⟩ := h; exact (Array.getElem?_eq_some_iff.1 h).1
theorem Blk.of_eq {w w' : World} {b : Nat} {C : Array Value} {t : TypeId} (h : Blk w b C t) (e : w'.heap[b]? = w.heap[b]?) : Blk w' b C t := by
  obtain ⟨fz, h, k⟩ := h; exact ⟨fz, by rw [e]; exact h, k⟩
theorem Blk.setRow {w : World} {b : Nat} {C D : Array Value} {t : TypeId} (h : Blk w b C t) (hs : D.size = C.size) : Blk (w.setRow b D) b D t := by
  obtain ⟨fz, h, k⟩ := h; exact ⟨fz, setRow_heap w b C D t fz h, by rw [hs]; exact k⟩
/-- What stands in a name's block. -/
def RepC (E : Emb) (w : World) (g : Nat) : Cont → Prop
  | .var t l => ∃ b cs, (E.loc g).addr = some (b, 0) ∧ E.F b = none ∧ w.heap[b]? = some (.cells cs.toArray t (0, 0)) ∧ VRs E l cs
  | .irow t k l => (E.loc g).sz = 1 ∧ l.length ≤ (E.loc g).room ∧ ((E.loc g).addr = none ∧ (E.loc g).room = 0 ∨
      ∃ b off C, (E.loc g).addr = some (b, off) ∧ E.F b = none ∧ Blk w b C t ∧ off + (E.loc g).room ≤ C.size ∧
        ∀ j, j < l.length → C[off + j]? = some (.int k (l.getD j 0)))
  | .row t sz l => (E.loc g).sz = sz ∧ l.length ≤ (E.loc g).room ∧ ((E.loc g).addr = none ∧ (E.loc g).room = 0 ∨
      ∃ b off C, (E.loc g).addr = some (b, off) ∧ E.F b = none ∧ Blk w b C t ∧ off + (E.loc g).room * sz ≤ C.size ∧
        ∀ j v, l[j]? = some v → ∃ cs : List Value, cs.length = sz ∧ (∀ i, i < sz → C[off + j * sz + i]? = cs[i]?) ∧ VR E v cs)
  | .mp k l => ∃ b es ck, (E.loc g).addr = some (b, 0) ∧ E.F b = none ∧ w.heap[b]? = some (.map es ck) ∧ es.toList.map (fun e : MapEntry => e.key) = l.map (fun p => .int k p.1) ∧ TVl E (l.map fun p => p.2) (es.toList.map fun e : MapEntry => e.val)
  | .srow t k l => (E.loc g).sz = 1 ∧ ∃ b C m, (E.loc g).addr = some (b, 0) ∧ E.F b = none ∧ w.heap[b]? = some (.cells C t m) ∧ ∀ j, j < l.length → C[j]? = some (.int k (l.getD j 0))
  | .lp en ps asg body s => ∃ b r, (E.loc g).addr = some (b, 0) ∧ E.F b = none ∧ w.heap[b]? = some (.loop r) ∧ TVl E en r.tmps.toList ∧ r.params.toList = ps ∧ r.assign = asg ∧ r.body = body ∧ r.state = s.st ∧ r.pending = s.pend

structure Rep (E : Emb) (A : Heap) (w : World) : Prop where
  frm : ∀ b o, E.F b = some o → w.heap[b]? = some o
  lt : ∀ g c, A g = some c → g < E.N
  cont : ∀ g c, A g = some c → RepC E w g c
  sep : ∀ g₁ g₂ c₁ c₂, A g₁ = some c₁ → A g₂ = some c₂ → g₁ ≠ g₂ → ∀ a₁ a₂, (E.loc g₁).addr = some a₁ → (E.loc g₂).addr = some a₂ → a₁.1 ≠ a₂.1
  low : ∀ g c, A g = some c → E.lo ≤ g
  lon : E.lo ≤ E.N
  hid : ∀ b o, E.H b = some o → w.heap[b]? = some o ∧ E.F b = none ∧ ∀ g c, A g = some c → ∀ off, (E.loc g).addr ≠ some (b, off)

theorem Rep.sub {E : Emb} {A B : Heap} {w : World} (h : Rep E B w) (hs : A.Sub B) : Rep E A w :=
  ⟨h.frm, fun g c hg => h.lt g c (hs g c hg), fun g c hg => h.cont g c (hs g c hg),
   fun g1 g2 c1 c2 h1 h2 => h.sep g1 g2 c1 c2 (hs _ _ h1) (hs _ _ h2), fun g c hg => h.low g c (hs g c hg), h.lon,
   fun b o hb => ⟨(h.hid b o hb).1, (h.hid b o hb).2.1, fun g c hg => (h.hid b o hb).2.2 g c (hs g c hg)⟩⟩

theorem RepC_mono0 {E E' : Emb} (hE : E.Le0 E') {w w' : World} {g : Nat} (hg : g < E.N) {c : Cont} (h : RepC E w g c)
    (hF : ∀ b off, (E.loc g).addr = some (b, off) → E'.F b = none)
    (hw : ∀ b off, (E.loc g).addr = some (b, off) → w'.heap[b]? = w.heap[b]?) : RepC E' w' g c := by
  have hl := hE.loc g hg
  cases c with
  | var t l =>
    obtain ⟨b, cs, ha, _, hb, hv⟩ := h
    exact ⟨b, cs, by rw [hl]; exact ha, hF _ _ ha, by rw [hw _ _ ha]; exact hb, VRs_mono0 hE l cs hv⟩
  | irow t k l =>
    obtain ⟨hs, hr, h⟩ := h
    refine ⟨by rw [hl]; exact hs, by rw [hl]; exact hr, ?_⟩
    rw [hl]
    refine h.imp id fun ⟨b, off, C, ha, _, hb, hc, hx⟩ => ⟨b, off, C, ha, hF _ _ ha, hb.of_eq (hw _ _ ha), hc, hx⟩
  | row t sz l =>
    obtain ⟨hs, hr, h⟩ := h
    refine ⟨by rw [hl]; exact hs, by rw [hl]; exact hr, ?_⟩
    rw [hl]
    refine h.imp id fun ⟨b, off, C, ha, _, hb, hc, hx⟩ => ⟨b, off, C, ha, hF _ _ ha, hb.of_eq (hw _ _ ha), hc, fun j v hj => ?_⟩
    obtain ⟨cs, h1, h2, h3⟩ := hx j v hj
    exact ⟨cs, h1, h2, VR_mono0 hE v cs h3⟩
  | mp k l =>
    obtain ⟨b, es, ck, ha, _, hb, hk, hv⟩ := h
    exact ⟨b, es, ck, by rw [hl]; exact ha, hF _ _ ha, by rw [hw _ _ ha]; exact hb, hk, TVl_mono0 hE _ _ hv⟩
  | srow t k l =>
    obtain ⟨hs, b, C, m, ha, _, hb, hx⟩ := h
    exact ⟨by rw [hl]; exact hs, b, C, m, by rw [hl]; exact ha, hF _ _ ha, by rw [hw _ _ ha]; exact hb, hx⟩
  | lp en ps asg body s =>
    obtain ⟨b, r, ha, _, hb, hv, hx⟩ := h
    exact ⟨b, r, by rw [hl]; exact ha, hF _ _ ha, by rw [hw _ _ ha]; exact hb, TVl_mono0 hE _ _ hv, hx⟩
theorem RepC_mono {E E' : Emb} (hE : E.Le E') {w w' : World} {g : Nat} (hg : g < E.N) {c : Cont} (h : RepC E w g c)
    (hF : ∀ b off, (E.loc g).addr = some (b, off) → E'.F b = none)
    (hw : ∀ b off, (E.loc g).addr = some (b, off) → w'.heap[b]? = w.heap[b]?) : RepC E' w' g c := RepC_mono0 hE.to0 hg h hF hw

/-- The block of a live name lies in the world, and is not frozen. -/
theorem Rep.blk {E : Emb} {A : Heap} {w : World} (h : Rep E A w) {g : Nat} {c : Cont} (hg : A g = some c) {b off : Nat} (ha : (E.loc g).addr = some (b, off)) :
    b < w.heap.size ∧ E.F b = none := by
  have hc := h.cont g c hg
  have lt : ∀ {o : Obj}, w.heap[b]? = some o → b < w.heap.size := fun hb => (Array.getElem?_eq_some_iff.1 hb).1
  cases c with
  | var t l =>
    obtain ⟨b', cs, ha', hF, hb, _⟩ := hc
    rw [ha'] at ha; injection ha with ha; injection ha with e1 e2; subst e1
    exact ⟨lt hb, hF⟩
  | irow t k l =>
    obtain ⟨_, _, ⟨hn, _⟩ | ⟨b', o', C, ha', hF, hb, _⟩⟩ := hc
    · rw [hn] at ha; cases ha
    · rw [ha'] at ha; injection ha with ha; injection ha with e1 e2; subst e1
      exact ⟨hb.lt, hF⟩
  | row t sz l =>
    obtain ⟨_, _, ⟨hn, _⟩ | ⟨b', o', C, ha', hF, hb, _⟩⟩ := hc
    · rw [hn] at ha; cases ha
    · rw [ha'] at ha; injection ha with ha; injection ha with e1 e2; subst e1
      exact ⟨hb.lt, hF⟩
  | mp k l =>
    obtain ⟨b', es, ck, ha', hF, hb, _⟩ := hc
    rw [ha'] at ha; injection ha with ha; injection ha with e1 e2; subst e1
    exact ⟨lt hb, hF⟩
  | srow t k l =>
    obtain ⟨_, b', C, m, ha', hF, hb, _⟩ := hc
    rw [ha'] at ha; injection ha with ha; injection ha with e1 e2; subst e1
    exact ⟨lt hb, hF⟩
  | lp en ps asg body s =>
    obtain ⟨b', r, ha', hF, hb, _⟩ := hc
    rw [ha'] at ha; injection ha with ha; injection ha with e1 e2; subst e1
    exact ⟨lt hb, hF⟩

/-- The embedding with one name more. -/
def Emb.push (E : Emb) (l : Loc) : Emb := { E with loc := fun g => if g = E.N then l else E.loc g, N := E.N + 1 }
theorem Emb.push_le (E : Emb) (l : Loc) : E.Le (E.push l) :=
  ⟨Nat.le_succ _, fun g hg => by simp [Emb.push, Nat.ne_of_lt hg], fun _ _ h => h, rfl, fun _ _ h => h⟩
theorem Emb.push_loc (E : Emb) (l : Loc) : (E.push l).loc E.N = l := by simp [Emb.push]

theorem heap_alloc_eq (w : World) (o : Obj) (b : Nat) : (w.alloc o).heap[b]? = if b = w.heap.size then some o else w.heap[b]? := by
  show (w.heap.push o)[b]? = _
  rw [Array.getElem?_push]

/-- A new name in a block of its own. -/
theorem Rep.push {E : Emb} {A : Heap} {w w' : World} (h : Rep E A w) (l : Loc) (c : Cont)
    (hF : ∀ b o, E.F b = some o → w'.heap[b]? = some o)
    (hold : ∀ g c, A g = some c → ∀ b off, (E.loc g).addr = some (b, off) → w'.heap[b]? = w.heap[b]?)
    (hnew : ∀ b off, l.addr = some (b, off) → ∀ g c, A g = some c → ∀ b' off', (E.loc g).addr = some (b', off') → b' ≠ b)
    (hH : ∀ b o, E.H b = some o → w'.heap[b]? = some o ∧ ∀ off, l.addr ≠ some (b, off))
    (hc : RepC (E.push l) w' E.N c) : Rep (E.push l) (A.set E.N c) w' := by
  have hl : ∀ g c, A g = some c → (E.push l).loc g = E.loc g := fun g c hg => by simp [Emb.push, Nat.ne_of_lt (h.lt g c hg)]
  refine ⟨hF, fun g x hg => ?_, fun g x hg => ?_, fun g₁ g₂ c₁ c₂ h₁ h₂ hne a₁ a₂ e₁ e₂ => ?_, fun g x hg => ?_, Nat.le_succ_of_le h.lon, fun b o hb => ⟨(hH b o hb).1, (h.hid b o hb).2.1, fun g x hg off => ?_⟩⟩
  · simp only [Heap.set] at hg
    split at hg
    · rename_i e; subst e; exact Nat.lt_succ_self _
    · exact Nat.lt_succ_of_lt (h.lt g x hg)
  · simp only [Heap.set] at hg
    split at hg
    · rename_i e; subst e; injection hg with hg; subst hg; exact hc
    · exact RepC_mono (E.push_le l) (h.lt g x hg) (h.cont g x hg) (fun b off ha => (h.blk hg ha).2) (fun b off ha => hold g x hg b off ha)
  · simp only [Heap.set] at h₁ h₂
    split at h₁ <;> split at h₂
    · rename_i e f; exact absurd (e.trans f.symm) hne
    · rename_i e _; subst e
      rw [Emb.push_loc] at e₁
      rw [hl _ _ h₂] at e₂
      exact fun hh => hnew a₁.1 a₁.2 e₁ _ _ h₂ a₂.1 a₂.2 e₂ hh.symm
    · rename_i _ e; subst e
      rw [Emb.push_loc] at e₂
      rw [hl _ _ h₁] at e₁
      exact hnew a₂.1 a₂.2 e₂ _ _ h₁ a₁.1 a₁.2 e₁
    · rw [hl _ _ h₁] at e₁
      rw [hl _ _ h₂] at e₂
      exact h.sep _ _ _ _ h₁ h₂ hne a₁ a₂ e₁ e₂
  · simp only [Heap.set] at hg
    split at hg
    · rename_i e; subst e; exact h.lon
    · exact h.low g x hg
  · simp only [Heap.set] at hg
    split at hg
    · rename_i e; subst e; rw [Emb.push_loc]; exact (hH b o hb).2 off
    · rw [hl g x hg]; exact (h.hid b o hb).2.2 g x hg off

theorem Rep.fresh {E : Emb} {A : Heap} {w : World} (h : Rep E A w) : A E.N = none := by
  cases hc : A E.N with
  | none => rfl
  | some c => exact absurd (h.lt _ _ hc) (Nat.lt_irrefl _)

/-- A new block, and a name for it. -/
theorem Rep.alloc {E : Emb} {A : Heap} {w : World} (h : Rep E A w) (o : Obj) (l : Loc) (off : Nat) (hl : l.addr = some (w.heap.size, off)) (c : Cont)
    (hc : RepC (E.push l) (w.alloc o) E.N c) : Rep (E.push l) (A.set E.N c) (w.alloc o) := by
  have hb : ∀ b, b < w.heap.size → (w.alloc o).heap[b]? = w.heap[b]? := fun b hb => heap_alloc_old w o b hb
  refine h.push l c (fun b x hx => ?_) (fun g c hg b off ha => hb b (h.blk hg ha).1) (fun b off ha g c hg b' off' ha' => ?_) (fun b x hx => ?_) hc
  · have := h.frm b x hx
    rw [hb b (Array.getElem?_eq_some_iff.1 this).1]; exact this
  · rw [hl] at ha; injection ha with ha; injection ha with e1 e2; subst e1
    exact Nat.ne_of_lt (h.blk hg ha').1
  · have hlt := (Array.getElem?_eq_some_iff.1 (h.hid b x hx).1).1
    rw [hb b hlt]
    refine ⟨(h.hid b x hx).1, fun off e => ?_⟩
    rw [hl] at e; injection e with e; injection e with e1 e2; omega

/-- A block that is kept out of sight for a while. -/
def Emb.hide (E : Emb) (b : Nat) (o : Obj) : Emb := { E with H := fun x => if x = b then some o else E.H x }
def Emb.thaw (E : Emb) (b : Nat) : Emb := { E with H := fun x => if x = b then none else E.H x }
theorem Emb.hide_le0 (E : Emb) (b : Nat) (o : Obj) : E.Le0 (E.hide b o) := ⟨Nat.le_refl _, fun _ _ => rfl, fun _ _ h => h⟩
theorem Emb.thaw_le0 (E : Emb) (b : Nat) : E.Le0 (E.thaw b) := ⟨Nat.le_refl _, fun _ _ => rfl, fun _ _ h => h⟩
theorem Rep.hide {E : Emb} {A : Heap} {w : World} {g : Nat} {c : Cont} (h : Rep E (A.set g c) w) (hA : A g = none) {b off : Nat} (ha : (E.loc g).addr = some (b, off)) :
    ∃ o, E.H b = none ∧ Rep (E.hide b o) A w := by
  have hg := Heap.set_same A g c
  obtain ⟨h1, h2⟩ := h.blk hg ha
  have hn : E.H b = none := by
    cases hh : E.H b with
    | none => rfl
    | some o => exact absurd ha ((h.hid b o hh).2.2 g _ hg off)
  have hs : ∀ g' x, A g' = some x → g' ≠ g ∧ (A.set g c) g' = some x := fun g' x hx => by
    have hne : g' ≠ g := fun e => by subst e; rw [hA] at hx; cases hx
    exact ⟨hne, by rw [Heap.set_ne _ _ hne]; exact hx⟩
  refine ⟨w.heap[b], hn, h.frm, fun g' x hx => h.lt g' x (hs g' x hx).2, fun g' x hx => ?_, fun g₁ g₂ c₁ c₂ k₁ k₂ => h.sep g₁ g₂ c₁ c₂ (hs _ _ k₁).2 (hs _ _ k₂).2, fun g' x hx => h.low g' x (hs g' x hx).2, h.lon, fun x o hx => ?_⟩
  · have k := (hs g' x hx).2
    exact RepC_mono0 (E.hide_le0 b _) (h.lt g' x k) (h.cont g' x k) (fun b off ha => (h.blk k ha).2) fun _ _ _ => rfl
  · simp only [Emb.hide] at hx
    split at hx
    · rename_i e; subst e; injection hx with hx
      refine ⟨by rw [← hx]; exact Array.getElem?_eq_getElem h1, h2, fun g' y hy off' e => ?_⟩
      exact h.sep g' g _ _ (hs g' y hy).2 hg (hs g' y hy).1 _ _ e ha rfl
    · obtain ⟨k1, k2, k3⟩ := h.hid x o hx
      exact ⟨k1, k2, fun g' y hy => k3 g' y (hs g' y hy).2⟩
theorem Emb.hide_le (E : Emb) {b : Nat} (o : Obj) (h : E.H b = none) : E.Le (E.hide b o) :=
  ⟨Nat.le_refl _, fun _ _ => rfl, fun _ _ h => h, rfl, fun x y hx => by
    simp only [Emb.hide]
    split
    · rename_i e; subst e; rw [h] at hx; cases hx
    · exact hx⟩
/-- It is seen again, and has a name. -/
theorem Rep.thaw {E : Emb} {A : Heap} {w : World} {g : Nat} {c : Cont} (h : Rep E A w) {b off : Nat} (ha : (E.loc g).addr = some (b, off)) (hH : ∃ o, E.H b = some o) (hlt : g < E.N) (hlo : E.lo ≤ g)
    (hc : RepC E w g c) : A g = none ∧ Rep (E.thaw b) (A.set g c) w := by
  obtain ⟨o, hH⟩ := hH
  obtain ⟨h1, h2, h3⟩ := h.hid b o hH
  have hA : A g = none := by
    cases hh : A g with
    | none => rfl
    | some x => exact absurd ha (h3 g x hh off)
  have cases' : ∀ g' x, (A.set g c) g' = some x → (g' = g ∧ x = c) ∨ (g' ≠ g ∧ A g' = some x) := fun g' x hx => by
    simp only [Heap.set] at hx
    split at hx
    · rename_i e; injection hx with hx; exact .inl ⟨e, hx.symm⟩
    · rename_i e; exact .inr ⟨e, hx⟩
  refine ⟨hA, h.frm, fun g' x hx => ?_, fun g' x hx => ?_, fun g₁ g₂ c₁ c₂ k₁ k₂ hne a₁ a₂ e₁ e₂ => ?_, fun g' x hx => ?_, h.lon, fun x y hx => ?_⟩
  · rcases cases' g' x hx with ⟨rfl, _⟩ | ⟨_, k⟩
    · exact hlt
    · exact h.lt g' x k
  · rcases cases' g' x hx with ⟨rfl, rfl⟩ | ⟨_, k⟩
    · refine RepC_mono0 (E.thaw_le0 b) hlt hc (fun b' off' ha' => ?_) fun _ _ _ => rfl
      rw [ha] at ha'; injection ha' with ha'; injection ha' with e1 e2; subst e1
      exact h2
    · exact RepC_mono0 (E.thaw_le0 b) (h.lt g' x k) (h.cont g' x k) (fun b off ha => (h.blk k ha).2) fun _ _ _ => rfl
  · have ha' : ((E.thaw b).loc g).addr = some (b, off) := ha
    rcases cases' _ _ k₁ with ⟨rfl, _⟩ | ⟨n1, k1⟩ <;> rcases cases' _ _ k₂ with ⟨e, _⟩ | ⟨n2, k2⟩
    · exact absurd e.symm hne
    · rw [ha'] at e₁; injection e₁ with e₁; subst e₁
      intro e
      refine h3 g₂ c₂ k2 a₂.2 ?_
      rw [show b = a₂.1 from e]; exact e₂
    · subst e
      rw [ha'] at e₂; injection e₂ with e₂; subst e₂
      intro e
      refine h3 g₁ c₁ k1 a₁.2 ?_
      rw [show b = a₁.1 from e.symm]; exact e₁
    · exact h.sep _ _ _ _ k1 k2 hne _ _ e₁ e₂
  · rcases cases' g' x hx with ⟨rfl, _⟩ | ⟨_, k⟩
    · exact hlo
    · exact h.low g' x k
  · simp only [Emb.thaw] at hx
    split at hx
    · cases hx
    · rename_i hxb
      obtain ⟨k1, k2, k3⟩ := h.hid x y hx
      refine ⟨k1, k2, fun g' z hz off' e => ?_⟩
      rcases cases' g' z hz with ⟨rfl, _⟩ | ⟨_, k⟩
      · have ha' : ((E.thaw b).loc g').addr = some (b, off) := ha
        rw [ha'] at e; injection e with e; injection e with e1 e2; exact hxb e1.symm
      · exact k3 g' z k off' e

/-- A world that has grown by what no name knows of. -/
theorem Rep.grow {E : Emb} {A : Heap} {w w' : World} (h : Rep E A w) (hw : ∀ b, b < w.heap.size → w'.heap[b]? = w.heap[b]?) : Rep E A w' :=
  ⟨fun b o ho => by have := h.frm b o ho; rw [hw b (Array.getElem?_eq_some_iff.1 this).1]; exact this, h.lt,
   fun g c hg => RepC_mono (Emb.Le.refl E) (h.lt g c hg) (h.cont g c hg) (fun b off ha => (h.blk hg ha).2) (fun b off ha => hw b (h.blk hg ha).1), h.sep, h.low, h.lon,
   fun b o ho => by have := h.hid b o ho; rw [hw b (Array.getElem?_eq_some_iff.1 this.1).1]; exact this⟩

/-- What a name's block holds is changed. -/
theorem Rep.change {E : Emb} {A : Heap} {w w' : World} (h : Rep E A w) {g : Nat} {c c' : Cont} (hg : A g = some c) {b off : Nat} (ha : (E.loc g).addr = some (b, off))
    (hw : ∀ x, x ≠ b → w'.heap[x]? = w.heap[x]?) (hc : RepC E w' g c') : Rep E (A.set g c') w' := by
  refine ⟨fun x o ho => ?_, fun g' x hx => ?_, fun g' x hx => ?_, fun g₁ g₂ c₁ c₂ h₁ h₂ hne => ?_, fun g' x hx => ?_, h.lon, fun x o ho => ?_⟩
  · have hne : x ≠ b := fun e => by subst e; rw [(h.blk hg ha).2] at ho; cases ho
    rw [hw x hne]; exact h.frm x o ho
  · simp only [Heap.set] at hx
    split at hx
    · rename_i e; subst e; exact h.lt _ _ hg
    · exact h.lt _ _ hx
  · simp only [Heap.set] at hx
    split at hx
    · rename_i e; subst e; injection hx with hx; subst hx; exact hc
    · rename_i e
      refine RepC_mono (Emb.Le.refl E) (h.lt _ _ hx) (h.cont _ _ hx) (fun b' off' ha' => (h.blk hx ha').2) (fun b' off' ha' => hw b' ?_)
      exact fun e' => h.sep _ _ _ _ hx hg e _ _ ha' ha e'
  · have key : ∀ g' x, (A.set g c') g' = some x → ∃ y, A g' = some y := fun g' x hx => by
      simp only [Heap.set] at hx
      split at hx
      · rename_i e; subst e; exact ⟨_, hg⟩
      · exact ⟨_, hx⟩
    obtain ⟨y1, k1⟩ := key _ _ h₁
    obtain ⟨y2, k2⟩ := key _ _ h₂
    exact h.sep _ _ _ _ k1 k2 hne
  · simp only [Heap.set] at hx
    split at hx
    · rename_i e; subst e; exact h.low _ _ hg
    · exact h.low _ _ hx
  · have h1 := h.hid x o ho
    have hne : x ≠ b := fun e => by subst e; exact h1.2.2 g c hg off ha
    refine ⟨by rw [hw x hne]; exact h1.1, h1.2.1, fun g' y hy => ?_⟩
    simp only [Heap.set] at hy
    split at hy
    · rename_i e; subst e; exact h1.2.2 _ _ hg
    · exact h1.2.2 _ _ hy
end AVL

/- Parts of struct and array values; reading and writing variables. -/
namespace AVL
open Go
set_option linter.unusedSimpArgs false
set_option linter.unusedVariables false

inductive Sh where
  | sc
  | ag
  | ia (k : IntKind) (n : Nat)
  deriving DecidableEq

def comps : AV → List AV
  | .agg l => l
  | v => [v]

def dropC : List AV → Nat → Option (List AV)
  | l, 0 => some l
  | [], _ + 1 => none
  | v :: r, n + 1 => if v.size ≤ n + 1 then dropC r (n + 1 - v.size) else match v with
    | .iarr k m l => some (.iarr k (m - (n + 1)) (l.drop (n + 1)) :: r)
    | _ => none
def takeC : List AV → Nat → Option (List AV)
  | _, 0 => some []
  | [], _ + 1 => none
  | v :: r, n + 1 => if v.size ≤ n + 1 then (takeC r (n + 1 - v.size)).map (v :: ·) else match v with
    | .iarr k _ l => some [.iarr k (n + 1) (l.take (n + 1))]
    | _ => none
def setC (l : List AV) (off sz : Nat) (new : List AV) : Option (List AV) :=
  match takeC l off, dropC l (off + sz) with
  | some a, some r => some (a ++ (new ++ r))
  | _, _ => none
def intsOf (k : IntKind) : List AV → Option (List Int)
  | [] => some []
  | .int k' n :: r => if k' = k then (intsOf k r).map (n :: ·) else none
  | _ => none
/-- The numbers, single or in rows. -/
def intsQ (k : IntKind) : List AV → Option (List Int)
  | [] => some []
  | .int k' n :: r => if k' = k then (intsQ k r).map (n :: ·) else none
  | .iarr k' n x :: r => if k' = k ∧ x.length = n then (intsQ k r).map (x ++ ·) else none
  | _ => none
def shp : Sh → List AV → Option AV
  | .sc, [v] => match v with
    | .iarr k n l => if n = 1 then some (.int k (l.getD 0 0)) else none
    | .agg _ => none
    | v => some v
  | .sc, _ => none
  | .ag, l => some (.agg l)
  | .ia k n, l => match l with
    | [.iarr k' n' x] => if k' = k ∧ n' = n then some (.iarr k n x) else none
    | l => match intsQ k l with
      | some x => if x.length = n then some (.iarr k n x) else none
      | none => none
def getC (l : List AV) (off sz : Nat) (sh : Sh) : Option AV :=
  match dropC l off with
  | some r => match takeC r sz with
    | some x => shp sh x
    | none => none
  | none => none

/-- The machine's value of a shape over cells. -/
def ShV (sh : Sh) (cs : List Value) (c : Value) : Prop :=
  match sh with
  | .sc => cs = [c]
  | _ => c = .agg cs.toArray

theorem range_map_drop {α : Type} (f : Nat → α) (m n : Nat) : ((List.range m).map f).drop n = (List.range (m - n)).map (fun j => f (n + j)) := by
  apply List.ext_getElem?
  intro i
  simp only [List.getElem?_drop, List.getElem?_map, List.getElem?_range]
  by_cases h : n + i < m
  · rw [List.getElem?_range h, List.getElem?_range (by omega)]; rfl
  · rw [List.getElem?_eq_none (by simpa using h), List.getElem?_eq_none (by simp; omega)]; rfl
theorem range_map_take {α : Type} (f : Nat → α) (m n : Nat) (h : n ≤ m) : ((List.range m).map f).take n = (List.range n).map f := by
  apply List.ext_getElem?
  intro i
  simp only [List.getElem?_take, List.getElem?_map]
  by_cases h' : i < n
  · rw [List.getElem?_range h', List.getElem?_range (by omega)]; simp [h']
  · rw [List.getElem?_eq_none (l := List.range n) (by simpa using h')]; simp [h']

theorem dropC_ok {E : Emb} : ∀ (l : List AV) (n : Nat) (cs : List Value) (r : List AV), VRs E l cs → dropC l n = some r → VRs E r (cs.drop n) ∧ n ≤ cs.length
  | l, 0, cs, r, h, hd => by
    have : r = l := by cases l <;> simpa [dropC, eq_comm] using hd
    subst this; simpa using h
  | [], n + 1, cs, r, h, hd => by simp [dropC] at hd
  | v :: l, n + 1, cs, r, h, hd => by
    simp only [VRs] at h
    obtain ⟨c1, c2, rfl, h1, h2⟩ := h
    have hl := VR_len v c1 h1
    simp only [dropC] at hd
    split at hd
    · rename_i hs
      obtain ⟨ih, hle⟩ := dropC_ok l _ c2 r h2 hd
      refine ⟨?_, by simp; omega⟩
      rw [List.drop_append, List.drop_of_length_le (by omega), List.nil_append, hl]
      exact ih
    · rename_i hs
      split at hd
      · rename_i k m x
        injection hd with hd; subst hd
        simp only [AV.size] at hs hl
        simp only [VR] at h1
        refine ⟨?_, by simp; omega⟩
        rw [List.drop_append_of_le_length (by omega)]
        simp only [VRs, VR]
        refine ⟨_, _, rfl, ?_, h2⟩
        rw [h1, range_map_drop]
        apply List.map_congr_left
        intro j _
        simp [List.getD_eq_getElem?_getD, List.getElem?_drop]
      · cases hd
theorem takeC_ok {E : Emb} : ∀ (l : List AV) (n : Nat) (cs : List Value) (r : List AV), VRs E l cs → takeC l n = some r → VRs E r (cs.take n) ∧ n ≤ cs.length
  | l, 0, cs, r, h, hd => by
    have : r = [] := by cases l <;> simpa [takeC, eq_comm] using hd
    subst this; simp [VRs]
  | [], n + 1, cs, r, h, hd => by simp [takeC] at hd
  | v :: l, n + 1, cs, r, h, hd => by
    simp only [VRs] at h
    obtain ⟨c1, c2, rfl, h1, h2⟩ := h
    have hl := VR_len v c1 h1
    simp only [takeC] at hd
    split at hd
    · rename_i hs
      cases ht : takeC l (n + 1 - v.size) with
      | none => rw [ht] at hd; simp at hd
      | some x =>
        rw [ht] at hd; simp at hd; subst hd
        obtain ⟨ih, hle⟩ := takeC_ok l _ c2 x h2 ht
        refine ⟨?_, by simp; omega⟩
        rw [List.take_append, List.take_of_length_le (by omega), hl]
        simp only [VRs]
        exact ⟨_, _, rfl, h1, ih⟩
    · rename_i hs
      split at hd
      · rename_i k m x
        injection hd with hd; subst hd
        simp only [AV.size] at hs hl
        simp only [VR] at h1
        refine ⟨?_, by simp; omega⟩
        rw [List.take_append_of_le_length (by omega)]
        simp only [VRs, VR]
        refine ⟨_, [], (List.append_nil _).symm, ?_, rfl⟩
        rw [h1, range_map_take _ _ _ (by omega)]
        apply List.map_congr_left
        intro j hj
        simp at hj
        simp [List.getD_eq_getElem?_getD, List.getElem?_take, hj]
      · cases hd
theorem VRs_append {E : Emb} : ∀ (l₁ l₂ : List AV) (c₁ c₂ : List Value), VRs E l₁ c₁ → VRs E l₂ c₂ → VRs E (l₁ ++ l₂) (c₁ ++ c₂)
  | [], l₂, c₁, c₂, h1, h2 => by simp [VRs] at h1; subst h1; simpa using h2
  | v :: l, l₂, c₁, c₂, h1, h2 => by
    simp only [VRs, List.cons_append] at h1 ⊢
    obtain ⟨x, y, rfl, hx, hy⟩ := h1
    exact ⟨x, y ++ c₂, by simp, hx, VRs_append l l₂ y c₂ hy h2⟩
theorem setC_ok {E : Emb} {l new r : List AV} {off sz : Nat} {cs ns : List Value} (h : VRs E l cs) (hn : VRs E new ns) (hs : setC l off sz new = some r) :
    VRs E r (cs.take off ++ (ns ++ cs.drop (off + sz))) ∧ off + sz ≤ cs.length := by
  unfold setC at hs
  split at hs
  · rename_i a b ha hb
    injection hs with hs; subst hs
    obtain ⟨h1, _⟩ := takeC_ok l off cs a h ha
    obtain ⟨h2, hle⟩ := dropC_ok l (off + sz) cs b h hb
    exact ⟨VRs_append _ _ _ _ h1 (VRs_append _ _ _ _ hn h2), hle⟩
  · cases hs
theorem intsOf_ok {E : Emb} {k : IntKind} : ∀ (l : List AV) (x : List Int) (cs : List Value), VRs E l cs → intsOf k l = some x → cs = x.map (Value.int k)
  | [], x, cs, h, hi => by simp [intsOf] at hi; subst hi; simpa [VRs] using h
  | v :: r, x, cs, h, hi => by
    cases v <;> simp only [intsOf] at hi <;> try (cases hi)
    rename_i k' n
    split at hi
    · rename_i e; subst e
      cases hr : intsOf k' r with
      | none => rw [hr] at hi; simp at hi
      | some y =>
        rw [hr] at hi; simp at hi; subst hi
        simp only [VRs, VR] at h
        obtain ⟨c1, c2, rfl, rfl, h2⟩ := h
        simp [intsOf_ok r y c2 h2 hr]
    · cases hi
theorem range_getD {k : IntKind} (l : List Int) : (List.range l.length).map (fun j => Value.int k (l.getD j 0)) = l.map (Value.int k) := by
  apply List.ext_getElem (by simp)
  intro i h1 h2
  simp only [List.length_map] at h2
  simp [List.getElem?_eq_getElem h2]
theorem intsQ_ok {E : Emb} {k : IntKind} : ∀ (l : List AV) (x : List Int) (cs : List Value), VRs E l cs → intsQ k l = some x → cs = x.map (Value.int k)
  | [], x, cs, h, hi => by simp [intsQ] at hi; subst hi; simpa [VRs] using h
  | v :: r, x, cs, h, hi => by
    cases v <;> simp only [intsQ] at hi <;> try (cases hi; done)
    case int k' n =>
      split at hi
      · rename_i e; subst e
        cases hr : intsQ k' r with
        | none => rw [hr] at hi; simp at hi
        | some y =>
          rw [hr] at hi; simp at hi; subst hi
          simp only [VRs, VR] at h
          obtain ⟨c1, c2, rfl, rfl, h2⟩ := h
          simp [intsQ_ok r y c2 h2 hr]
      · cases hi
    case iarr k' n z =>
      split at hi
      · rename_i e; obtain ⟨e, e2⟩ := e; subst e; subst e2
        cases hr : intsQ k' r with
        | none => rw [hr] at hi; simp at hi
        | some y =>
          rw [hr] at hi; simp at hi; subst hi
          simp only [VRs, VR] at h
          obtain ⟨c1, c2, rfl, rfl, h2⟩ := h
          rw [range_getD]
          simp [intsQ_ok r y c2 h2 hr]
      · cases hi
theorem shp_ok {E : Emb} {sh : Sh} {l : List AV} {v : AV} {cs : List Value} {c : Value} (h : VRs E l cs) (hs : shp sh l = some v) (hc : ShV sh cs c) : TV E v c := by
  unfold shp at hs
  split at hs
  · rename_i v'
    simp only [VRs] at h
    obtain ⟨c1, c2, rfl, h1, rfl⟩ := h
    simp only [ShV, List.append_nil] at hc
    subst hc
    split at hs
    · split at hs
      · rename_i e; subst e
        injection hs with hs; subst hs
        simp only [VR] at h1
        exact TV.sc rfl (by simpa [VR] using h1)
      · cases hs
    · cases hs
    · injection hs with hs; subst hs
      rename_i ha hb
      refine TV.sc ?_ h1
      cases v' <;> first | rfl | (exact absurd rfl (ha _ _ _)) | (exact absurd rfl (hb _))
  · cases hs
  · injection hs with hs; subst hs
    simp only [ShV] at hc; subst hc
    exact TV.agg rfl (by simpa only [VR] using h)
  · rename_i k n l
    simp only [ShV] at hc; subst hc
    split at hs
    · rename_i k' n' x
      split at hs
      · rename_i e; obtain ⟨rfl, rfl⟩ := e
        injection hs with hs; subst hs
        simp only [VRs] at h
        obtain ⟨c1, c2, rfl, h1, rfl⟩ := h
        exact TV.agg rfl (by simpa using h1)
      · cases hs
    · split at hs
      · rename_i x hx
        split at hs
        · rename_i e; subst e
          injection hs with hs; subst hs
          have := intsQ_ok _ _ _ h hx
          subst this
          refine TV.agg rfl ?_
          simp only [VR]
          apply List.ext_getElem?
          intro j
          simp only [List.getElem?_map]
          by_cases hj : j < x.length
          · simp [hj, List.getD_eq_getElem?_getD]
          · rw [List.getElem?_eq_none (by omega), List.getElem?_eq_none (by simpa using hj)]; rfl
        · cases hs
      · cases hs

def good : AV → Bool
  | .undef | .tuple _ => false
  | _ => true

theorem comps_ok {E : Emb} {v : AV} {c : Value} (hg : good v = true) (h : TV E v c) : VRs E (comps v) c.cells.toList := by
  rcases h with ⟨hv, xs, hx, rfl⟩ | ⟨hv, hx⟩
  · cases v <;> simp only [AV.isAgg, Bool.false_eq_true] at hv
    · simpa [comps, Value.cells, VR] using hx
    · simp only [comps, Value.cells, VRs]
      exact ⟨xs, [], by simp, hx, rfl⟩
  · have ho : v.ok = true := by cases v <;> simp_all [good, AV.ok]
    rcases VR_cells hv ho hx with ⟨hc, _⟩ | ⟨ys, rfl⟩
    · have : comps v = [v] := by cases v <;> simp_all [AV.isAgg, comps]
      rw [this, hc]
      simp only [VRs]
      exact ⟨[c], [], rfl, hx, rfl⟩
    · cases v <;> simp_all [VR, good, AV.isAgg]

mutual
def AV.st : AV → Bool
  | .undef | .tuple _ => false
  | .agg l => AV.sts l
  | _ => true
def AV.sts : List AV → Bool
  | [] => true
  | v :: r => v.st && AV.sts r
end
mutual
theorem st_one {E : Emb} : ∀ (v : AV) (cs : List Value), v.st = true → VR E v cs → ∀ c ∈ cs, c.oneCell' = true
  | .agg l, cs, hs, h => by simp only [AV.st] at hs; simp only [VR] at h; exact sts_one l cs hs h
  | .iarr k n l, cs, hs, h => by
    simp only [VR] at h; subst h
    intro c hc
    simp at hc
    obtain ⟨_, _, rfl⟩ := hc
    rfl
  | .undef, cs, hs, h => by simp [AV.st] at hs
  | .tuple l, cs, hs, h => by simp [AV.st] at hs
  | .int .., cs, hs, h => by simp only [VR] at h; subst h; simp [Value.oneCell']
  | .bool .., cs, hs, h => by simp only [VR] at h; subst h; simp [Value.oneCell']
  | .str .., cs, hs, h => by simp only [VR] at h; subst h; simp [Value.oneCell']
  | .nilS, cs, hs, h => by simp only [VR] at h; subst h; simp [Value.oneCell']
  | .isl .., cs, hs, h => by simp only [VR] at h; obtain ⟨_, _, rfl, _⟩ := h; simp [Value.oneCell']
  | .dsl .., cs, hs, h => by simp only [VR] at h; obtain ⟨_, _, rfl, _⟩ := h; simp [Value.oneCell']
  | .own .., cs, hs, h => by simp only [VR] at h; obtain ⟨_, _, _, rfl, _⟩ := h; simp [Value.oneCell']
  | .asl .., cs, hs, h => by simp only [VR] at h; obtain ⟨_, _, _, rfl, _⟩ := h; simp [Value.oneCell']
  | .ptr .., cs, hs, h => by simp only [VR] at h; obtain ⟨_, _, _, _, rfl⟩ := h; simp [Value.oneCell']
  | .pix .., cs, hs, h => by simp only [VR] at h; obtain ⟨_, _, _, _, _, rfl⟩ := h; simp [Value.oneCell']
  | .pel .., cs, hs, h => by simp only [VR] at h; obtain ⟨_, _, _, _, rfl⟩ := h; simp [Value.oneCell']
  | .pval .., cs, hs, h => by simp only [VR] at h; obtain ⟨_, _, _, rfl, _⟩ := h; simp [Value.oneCell']
  | .nilP, cs, hs, h => by simp only [VR] at h; subst h; simp [Value.oneCell']
  | .func .., cs, hs, h => by simp only [VR] at h; obtain ⟨_, _, ⟨_, _, rfl⟩, _⟩ := h; simp [Value.oneCell']
  | .nilF, cs, hs, h => by simp only [VR] at h; subst h; simp [Value.oneCell']
  | .iface .., cs, hs, h => by simp only [VR] at h; obtain ⟨_, rfl, _⟩ := h; simp [Value.oneCell']
  | .nilI, cs, hs, h => by simp only [VR] at h; subst h; simp [Value.oneCell']
  | .map .., cs, hs, h => by simp only [VR] at h; obtain ⟨_, _, _, _, rfl⟩ := h; simp [Value.oneCell']
  | .nilM, cs, hs, h => by simp only [VR] at h; subst h; simp [Value.oneCell']
theorem sts_one {E : Emb} : ∀ (l : List AV) (cs : List Value), AV.sts l = true → VRs E l cs → ∀ c ∈ cs, c.oneCell' = true
  | [], cs, hs, h => by simp [VRs] at h; subst h; simp
  | v :: r, cs, hs, h => by
    simp only [AV.sts, Bool.and_eq_true] at hs
    simp only [VRs] at h
    obtain ⟨c1, c2, rfl, h1, h2⟩ := h
    intro c hc
    rcases List.mem_append.1 hc with hc | hc
    · exact st_one v c1 hs.1 h1 c hc
    · exact sts_one r c2 hs.2 h2 c hc
end
theorem TV_one {E : Emb} {v : AV} {c : Value} (hg : v.st = true) (h : TV E v c) : ∀ x ∈ c.cells.toList, x.oneCell' = true := by
  have hgood : good v = true := by cases v <;> simp_all [AV.st, good]
  have hc := comps_ok hgood h
  refine sts_one (comps v) _ ?_ hc
  cases v <;> simp_all [comps, AV.st, AV.sts]

/-- The shape and the number of cells of a type. -/
def shOf (P : Program) (t : TypeId) : Option (Sh × Nat) :=
  match P.underlying t, P.info? t with
  | some (.array n e), some i => match P.underlying e with
    | some (.int k) => if i.size = n then some (.ia k n, n) else none
    | _ => some (.ag, i.size)
  | some (.struct _), some i => some (.ag, i.size)
  | some _, some i => if i.size = 1 then some (.sc, 1) else none
  | _, _ => none

section
variable {P : Program} {w : World}
theorem shOf_run {t : TypeId} {sh : Sh} {sz : Nat} (h : shOf P t = some (sh, sz)) :
    (isAgg t).run P w = .ok (match sh with | .sc => false | _ => true) w ∧ (Go.sizeOf t).run P w = .ok sz w ∧ (sh = .sc → sz = 1) := by
  unfold shOf at h
  cases hu : P.underlying t with
  | none => rw [hu] at h; simp at h
  | some d =>
    cases hi : P.info? t with
    | none => rw [hu, hi] at h; cases d <;> simp at h
    | some i =>
      rw [hu, hi] at h
      have hsz : (Go.sizeOf t).run P w = .ok i.size w := by simp [Go.sizeOf, typeInfo, hi]
      have hagg : (isAgg t).run P w = .ok (match d with | .struct _ | .array _ _ => true | _ => false) w := by
        unfold isAgg
        rw [Sem.run_bind, run_underlying hu w]
        cases d <;> simp
      rw [hsz, hagg]
      cases d with
      | array n e =>
        simp only at h
        split at h
        · split at h
          · rename_i e; injection h with h; injection h with h1 h2; subst h1; subst h2; exact ⟨rfl, by rw [e], fun h => by cases h⟩
          · cases h
        · injection h with h; injection h with h1 h2; subst h1; subst h2; exact ⟨rfl, rfl, fun h => by cases h⟩
      | struct fs => injection h with h; injection h with h1 h2; subst h1; subst h2; exact ⟨rfl, rfl, fun h => by cases h⟩
      | _ =>
        simp only at h
        split at h
        · rename_i e; injection h with h; injection h with h1 h2; subst h1; subst h2; exact ⟨rfl, by rw [e], fun _ => rfl⟩
        · cases h

theorem ShV_ex (sh : Sh) (cs : List Value) (h : sh = .sc → cs.length = 1) : ∃ c, ShV sh cs c := by
  cases sh with
  | sc =>
    have := h rfl
    match cs, this with
    | [c], _ => exact ⟨c, rfl⟩
  | ag => exact ⟨_, rfl⟩
  | ia k n => exact ⟨_, rfl⟩

theorem run_loadVar {t : TypeId} {sh : Sh} {sz : Nat} (h : shOf P t = some (sh, sz)) {b off : Nat} {cs : List Value} (hl : cs.length = sz)
    (hc : ∀ j v, cs[j]? = some v → w.cell? (pA b (off + j)) = some v) : ∃ c, (loadVar t (pA b off)).run P w = .ok c w ∧ ShV sh cs c := by
  obtain ⟨ha, hs, h1⟩ := shOf_run (w := w) h
  have hlc : (loadCells (pA b off) cs.length).run P w = .ok cs.toArray w :=
    run_loadCells_list w (pA b off) cs (fun j v hv => by rw [pA_add]; exact hc j v hv)
  cases sh with
  | sc =>
    have := h1 rfl
    subst this
    match cs, hl with
    | [c], _ =>
      refine ⟨c, ?_, rfl⟩
      have h0 := hc 0 c rfl
      simp only [loadVar, Sem.run_bind, ha, Result.andThen_ok, Bool.false_eq_true, if_false]
      simp [load, Sem.run] at h0 ⊢
      rw [h0]
  | ag =>
    refine ⟨_, ?_, rfl⟩
    subst hl
    simp [loadVar, Sem.run_bind, ha, hs, hlc]
  | ia k n =>
    refine ⟨_, ?_, rfl⟩
    subst hl
    simp [loadVar, Sem.run_bind, ha, hs, hlc]
end
end AVL

/- The operations on abstract values that touch no memory, and that the machine's agree. -/
namespace AVL
open Go
set_option linter.unusedSimpArgs false
set_option linter.unusedVariables false

theorem beqD {α : Type} [BEq α] [LawfulBEq α] [DecidableEq α] (a b : α) : (a == b) = decide (a = b) := by
  by_cases h : a = b <;> simp [h]

abbrev AEnv := Nat → AV
def upd (env : AEnv) (d : Nat) (v : AV) : AEnv := fun x => if x = d then v else env x

inductive AO where
  | t (n : Nat)
  | v (a : AV)
def ev (env : AEnv) : AO → AV
  | .t n => env n
  | .v a => a

/-- A constant of the program as an abstract value. -/
def scV : Value → Option AV
  | .int k n => some (.int k n)
  | .bool b => some (.bool b)
  | .string s => some (.str s)
  | .pointer none => some .nilP
  | .slice none 0 0 => some .nilS
  | .nilFunc => some .nilF
  | .nilIface => some .nilI
  | .map none => some .nilM
  | _ => none
def scVs : List Value → Option (List AV)
  | [] => some []
  | c :: r => match scV c, scVs r with
    | some v, some l => some (v :: l)
    | _, _ => none
def cV : Value → Option AV
  | .agg cs => (scVs cs.toList).map .agg
  | v => scV v
def trO : Operand → Option AO
  | .tmp n => some (.t n)
  | .const v => (cV v).map .v
  | .func f => some (.v (.func (.func f) [] []))
  | .global _ => none

theorem scV_ok {E : Emb} {c : Value} {v : AV} (h : scV c = some v) : VR E v [c] ∧ v.isAgg = false := by
  unfold scV at h
  split at h <;> first | (injection h with h; subst h; simp [VR, AV.isAgg]) | cases h
theorem scVs_ok {E : Emb} : ∀ (cs : List Value) (l : List AV), scVs cs = some l → VRs E l cs
  | [], l, h => by simp [scVs] at h; subst h; simp [VRs]
  | c :: r, l, h => by
    simp only [scVs] at h
    split at h
    · rename_i v y h1 h2
      injection h with h; subst h
      simp only [VRs]
      exact ⟨[c], r, rfl, (scV_ok h1).1, scVs_ok r y h2⟩
    · cases h
theorem cV_ok {E : Emb} {c : Value} {v : AV} (h : cV c = some v) : TV E v c := by
  unfold cV at h
  split at h
  · rename_i cs
    cases hs : scVs cs.toList with
    | none => rw [hs] at h; simp at h
    | some l =>
      rw [hs] at h; simp at h; subst h
      have := scVs_ok (E := E) _ _ hs
      exact .inl ⟨rfl, cs.toList, by simpa only [VR] using this, by simp⟩
  · obtain ⟨h1, h2⟩ := scV_ok (E := E) h
    exact TV.sc h2 h1

/-- The slots of a frame stand for an abstract environment. -/
def EnvR (E : Emb) (env : AEnv) (a : Act) : Prop := ∀ n, TV E (env n) (a.tmps.getD n undef)
theorem TV_undef (E : Emb) (c : Value) (hc : c = undef := by rfl) : TV E .undef c := TV.sc rfl (by subst hc; simp [VR])
theorem TV_undef_eq {E : Emb} {c : Value} (h : TV E .undef c) : c = undef := by
  rcases h with ⟨h, _⟩ | ⟨_, h⟩
  · cases h
  · simp only [VR] at h; injection h
theorem EnvR.mono {E E' : Emb} (hE : E.Le E') {env : AEnv} {a : Act} (h : EnvR E env a) : EnvR E' env a := fun n => TV_mono hE (h n)
theorem EnvR.put {E : Emb} {env : AEnv} {a : Act} (h : EnvR E env a) {d : Nat} {v : AV} {c : Value} (hv : TV E v c) (hd : d < a.tmps.size) : EnvR E (upd env d v) (a.put (some d) c) := by
  intro n
  simp only [upd, Act.put]
  split
  · rename_i e; subst e
    simpa [Array.getD_eq_getD_getElem?, hd] using hv
  · rename_i e
    have := h n
    rw [Array.getD_eq_getD_getElem?] at this ⊢
    rwa [Array.getElem?_setIfInBounds_ne (by omega)]
theorem ev_ok {E : Emb} {env : AEnv} {a : Act} (h : EnvR E env a) {x : Operand} {ax : AO} (hx : trO x = some ax) : TV E (ev env ax) (a.eval x) := by
  cases x with
  | tmp n => simp only [trO] at hx; injection hx with hx; subst hx; exact h n
  | const v =>
    simp only [trO] at hx
    cases hc : cV v with
    | none => rw [hc] at hx; simp at hx
    | some y => rw [hc] at hx; simp at hx; subst hx; exact cV_ok hc
  | func f => simp only [trO] at hx; injection hx with hx; subst hx; exact TV.sc rfl (by show VR E (.func (.func f) [] []) [Value.func (.func f) #[] #[]]; simp [VR, TVl, Emb.fn])
  | global g => simp [trO] at hx

section inv
variable {E : Emb} {c : Value}
@[simp] theorem TV_int {k : IntKind} {n : Int} : TV E (.int k n) c ↔ c = .int k n := by simp [TV, AV.isAgg, VR]
@[simp] theorem TV_bool {b : Bool} : TV E (.bool b) c ↔ c = .bool b := by simp [TV, AV.isAgg, VR]
@[simp] theorem TV_str {s : ByteArray} : TV E (.str s) c ↔ c = .string s := by simp [TV, AV.isAgg, VR]
@[simp] theorem TV_nilS : TV E .nilS c ↔ c = .slice none 0 0 := by simp [TV, AV.isAgg, VR]
@[simp] theorem TV_nilP : TV E .nilP c ↔ c = .pointer none := by simp [TV, AV.isAgg, VR]
@[simp] theorem TV_nilF : TV E .nilF c ↔ c = .nilFunc := by simp [TV, AV.isAgg, VR]
@[simp] theorem TV_nilI : TV E .nilI c ↔ c = .nilIface := by simp [TV, AV.isAgg, VR]
theorem TV_agg {l : List AV} : TV E (.agg l) c ↔ ∃ xs, VRs E l xs ∧ c = .agg xs.toArray := by simp [TV, AV.isAgg, VR]
theorem TV_iarr {k : IntKind} {n : Nat} {l : List Int} : TV E (.iarr k n l) c ↔ c = .agg ((List.range n).map (fun j => Value.int k (l.getD j 0))).toArray := by simp [TV, AV.isAgg, VR]
theorem TV_isl {k : IntKind} {l : List Int} : TV E (.isl k l) c ↔ ∃ a cap, c = .slice a l.length cap ∧ l.length ≤ cap ∧ (0 < l.length → ∃ b off, a = some (pA b off) ∧ ∀ j, j < l.length → E.cell b (off + j) = some (.int k (l.getD j 0))) := by
  simp [TV, AV.isAgg, VR]
theorem TV_dsl {sz : Nat} {l : List AV} : TV E (.dsl sz l) c ↔ ∃ a cap, c = .slice a l.length cap ∧ l.length ≤ cap ∧ (0 < l.length → ∃ b off, a = some (pA b off) ∧ SR E b sz off l) := by
  simp [TV, AV.isAgg, VR]
theorem TV_own {g i n : Nat} : TV E (.own g i n) c ↔ g < E.N ∧ ∃ a cap, c = .slice a n cap ∧ n ≤ cap ∧ i + cap ≤ (E.loc g).room ∧
      (cap = 0 ∨ ∃ b off, (E.loc g).addr = some (b, off) ∧ a = some (pA b (off + i * (E.loc g).sz))) := by
  simp [TV, AV.isAgg, VR]
theorem TV_asl {g o m i n : Nat} : TV E (.asl g o m i n) c ↔ g < E.N ∧ i + n ≤ m ∧ ∃ a, c = .slice a n (m - i) ∧ (m = i ∨ ∃ b off, (E.loc g).addr = some (b, off) ∧ a = some (pA b (off + o + i))) := by
  simp [TV, AV.isAgg, VR]
theorem TV_ptr {g o : Nat} : TV E (.ptr g o) c ↔ g < E.N ∧ ∃ b off, (E.loc g).addr = some (b, off) ∧ c = .pointer (some (pA b (off + o))) := by
  simp [TV, AV.isAgg, VR]
theorem TV_pix {g o m i : Nat} : TV E (.pix g o m i) c ↔ g < E.N ∧ i < m ∧ ∃ b off, (E.loc g).addr = some (b, off) ∧ c = .pointer (some (pA b (off + o + i))) := by
  simp [TV, AV.isAgg, VR]
theorem TV_pel {g i o : Nat} : TV E (.pel g i o) c ↔ g < E.N ∧ ∃ b off, (E.loc g).addr = some (b, off) ∧ c = .pointer (some (pA b (off + i * (E.loc g).sz + o))) := by
  simp [TV, AV.isAgg, VR]
theorem TV_pval {v : AV} : TV E (.pval v) c ↔ ∃ b off xs, c = .pointer (some (pA b off)) ∧ xs.length = v.size ∧ (∀ j, j < v.size → E.cell b (off + j) = xs[j]?) ∧ VR E v xs := by
  simp [TV, AV.isAgg, VR]
theorem TV_func {fn : Fn} {f g : List AV} : TV E (.func fn f g) c ↔ ∃ xs ys, (∃ k, E.fn fn = some k ∧ c = .func k xs ys) ∧ TVl E f xs.toList ∧ TVl E g ys.toList := by
  simp [TV, AV.isAgg, VR]
theorem TV_iface {t : TypeId} {v : AV} : TV E (.iface t v) c ↔ ∃ x, c = .iface t x ∧ TV E v x := by
  simp [TV, AV.isAgg, VR]
theorem TV_tuple {l : List AV} : TV E (.tuple l) c ↔ ∃ xs, c = .tuple xs ∧ TVl E l xs.toList := by
  simp [TV, AV.isAgg, VR]
theorem TVl_nil {cs : List Value} : TVl E [] cs ↔ cs = [] := by simp [TVl]
theorem TVl_cons {v : AV} {l : List AV} {cs : List Value} : TVl E (v :: l) cs ↔ ∃ c cr, cs = c :: cr ∧ TV E v c ∧ TVl E l cr := by simp [TVl, TV]
end inv

/-- What an operation's run must be. -/
def Res (E : Emb) (w : World) (K : AV → Heap → Prop) (r : Result Next) : Prop :=
  ∃ v A' E' w', K v A' ∧ Rep E' A' w' ∧ E.Le E' ∧ Same w w' ∧ ((∃ c, r = .ok (.value c) w' ∧ TV E' v c) ∨ (r = .ok .skip w' ∧ v = .undef))
/-- What an operation's run must be that touches no memory. -/
def ResV (E : Emb) (A : Heap) (w : World) (K : AV → Heap → Prop) (r : Result Next) : Prop := ∃ v c, K v A ∧ r = .ok (.value c) w ∧ TV E v c
theorem Res.val {E : Emb} {A : Heap} {w : World} {K : AV → Heap → Prop} {v : AV} {c : Value} (hR : Rep E A w) (hk : K v A) (hv : TV E v c) : ResV E A w K (.ok (.value c) w) :=
  ⟨v, c, hk, rfl, hv⟩
theorem ResV.res {E : Emb} {A : Heap} {w : World} {K : AV → Heap → Prop} {r : Result Next} (h : ResV E A w K r) (hR : Rep E A w) : Res E w K r := by
  obtain ⟨v, c, hk, rfl, hv⟩ := h
  exact ⟨v, A, E, w, hk, hR, Emb.Le.refl E, Same.refl w, .inl ⟨c, rfl, hv⟩⟩

def bAnd (k : IntKind) (a b : Int) : Int := k.wrap (BitVec.ofInt k.bits a &&& BitVec.ofInt k.bits b).toNat
def bOr (k : IntKind) (a b : Int) : Int := k.wrap (BitVec.ofInt k.bits a ||| BitVec.ofInt k.bits b).toNat
def bXor (k : IntKind) (a b : Int) : Int := k.wrap (BitVec.ofInt k.bits a ^^^ BitVec.ofInt k.bits b).toNat
def bClr (k : IntKind) (a b : Int) : Int := k.wrap (BitVec.ofInt k.bits a &&& ~~~BitVec.ofInt k.bits b).toNat
def shlI (k : IntKind) (a b : Int) : Int := k.wrap (a * 2 ^ min b.toNat k.bits)
def shrI (k : IntKind) (a b : Int) : Int := a.fdiv (2 ^ min b.toNat k.bits)

def abinI (op : BinOp) (k : IntKind) (a : Int) (k' : IntKind) (b : Int) (K : AV → Prop) : Prop :=
  match op with
  | .shl => 0 ≤ b ∧ K (.int k (shlI k a b))
  | .shr => 0 ≤ b ∧ K (.int k (shrI k a b))
  | .add => k = k' ∧ K (.int k (k.wrap (a + b)))
  | .sub => k = k' ∧ K (.int k (k.wrap (a - b)))
  | .mul => k = k' ∧ K (.int k (k.wrap (a * b)))
  | .quo => k = k' ∧ b ≠ 0 ∧ K (.int k (k.wrap (a.tdiv b)))
  | .rem => k = k' ∧ b ≠ 0 ∧ K (.int k (a.tmod b))
  | .and => k = k' ∧ K (.int k (bAnd k a b))
  | .or => k = k' ∧ K (.int k (bOr k a b))
  | .xor => k = k' ∧ K (.int k (bXor k a b))
  | .andNot => k = k' ∧ K (.int k (bClr k a b))
  | .eql => k = k' ∧ K (.bool (decide (a = b)))
  | .neq => k = k' ∧ K (.bool (!decide (a = b)))
  | .lss => k = k' ∧ K (.bool (decide (a < b)))
  | .leq => k = k' ∧ K (.bool (decide (a ≤ b)))
  | .gtr => k = k' ∧ K (.bool (decide (b < a)))
  | .geq => k = k' ∧ K (.bool (decide (b ≤ a)))
def abinS (op : BinOp) (a b : ByteArray) (K : AV → Prop) : Prop :=
  match op with
  | .add => a.size + b.size < 2 ^ 63 ∧ K (.str (a ++ b))
  | .eql => K (.bool (decide (a.toList = b.toList)))
  | .neq => K (.bool (!decide (a.toList = b.toList)))
  | .lss => K (.bool (Op.bytesLess a.toList b.toList))
  | .leq => K (.bool (Op.bytesLess a.toList b.toList || decide (a.toList = b.toList)))
  | .gtr => K (.bool (!(Op.bytesLess a.toList b.toList || decide (a.toList = b.toList))))
  | .geq => K (.bool (!Op.bytesLess a.toList b.toList))
  | _ => False
def abin (op : BinOp) (x y : AV) (K : AV → Prop) : Prop :=
  match x, y with
  | .int k a, .int k' b => abinI op k a k' b K
  | .str a, .str b => abinS op a b K
  | _, _ => False
def aun (op : UnOp) (x : AV) (K : AV → Prop) : Prop :=
  match op, x with
  | .neg, .int k n => K (.int k (k.wrap (0 - n)))
  | .xor, .int k n => K (.int k (bXor k (if k.signed then -1 else k.max) n))
  | .not, .bool b => K (.bool !b)
  | _, _ => False

section
variable {P : Program} {w : World} {E : Emb} {A : Heap} {K : AV → Heap → Prop}
theorem guardI {op : BinOp} {t : TypeId} {X Y : Operand} {k : IntKind} {n : Int} {d : Value} : (eqGuard op t X Y (.int k n) d).run P w = .ok () w := by
  cases op <;> rfl
theorem guardS {op : BinOp} {t : TypeId} {X Y : Operand} {s : ByteArray} {d : Value} : (eqGuard op t X Y (.string s) d).run P w = .ok () w := by
  cases op <;> rfl
theorem guardB {op : BinOp} {t : TypeId} {X Y : Operand} {b : Bool} {d : Value} : (eqGuard op t X Y (.bool b) d).run P w = .ok () w := by
  cases op <;> rfl

theorem binI_ok {op : BinOp} {t : TypeId} {k k' : IntKind} {a b : Int} {L : AV → Prop} (h : abinI op k a k' b L) :
    ∃ v c, L v ∧ (binOp op t (.int k a) (.int k' b)).run P w = .ok c w ∧ ∀ E, TV E v c := by
  cases op <;> simp only [abinI] at h
  case shl => exact ⟨_, _, h.2, by simp only [binOp, Op.shift, if_neg (Int.not_lt.2 h.1)]; rfl, fun E => TV_int.2 rfl⟩
  case shr => exact ⟨_, _, h.2, by simp only [binOp, Op.shift, if_neg (Int.not_lt.2 h.1)]; rfl, fun E => TV_int.2 rfl⟩
  case quo => obtain ⟨rfl, h0, h⟩ := h; exact ⟨_, _, h, by simp [binOp, Op.intDiv, h0] <;> rfl, fun E => TV_int.2 rfl⟩
  case rem => obtain ⟨rfl, h0, h⟩ := h; exact ⟨_, _, h, by simp [binOp, Op.intDiv, h0] <;> rfl, fun E => TV_int.2 rfl⟩
  all_goals obtain ⟨rfl, h⟩ := h
  case add => exact ⟨_, _, h, by simp [binOp, Op.intArith] <;> rfl, fun E => TV_int.2 rfl⟩
  case sub => exact ⟨_, _, h, by simp [binOp, Op.intArith] <;> rfl, fun E => TV_int.2 rfl⟩
  case mul => exact ⟨_, _, h, by simp [binOp, Op.intArith] <;> rfl, fun E => TV_int.2 rfl⟩
  case and => exact ⟨_, _, h, by simp [binOp, Op.intBits] <;> rfl, fun E => TV_int.2 rfl⟩
  case or => exact ⟨_, _, h, by simp [binOp, Op.intBits] <;> rfl, fun E => TV_int.2 rfl⟩
  case xor => exact ⟨_, _, h, by simp [binOp, Op.intBits] <;> rfl, fun E => TV_int.2 rfl⟩
  case andNot => exact ⟨_, _, h, by simp only [binOp, ne_eq, not_true_eq_false, if_false, Op.intBits]; rfl, fun E => TV_int.2 rfl⟩
  case eql => exact ⟨_, _, h, by simp [binOp, Op.intCmp, beqD] <;> rfl, fun E => TV_bool.2 rfl⟩
  case neq => exact ⟨_, _, h, by simp [binOp, Op.intCmp, bne, beqD] <;> rfl, fun E => TV_bool.2 rfl⟩
  case lss => exact ⟨_, _, h, by simp [binOp, Op.intCmp] <;> rfl, fun E => TV_bool.2 rfl⟩
  case leq => exact ⟨_, _, h, by simp [binOp, Op.intCmp] <;> rfl, fun E => TV_bool.2 rfl⟩
  case gtr => exact ⟨_, _, h, by simp [binOp, Op.intCmp] <;> rfl, fun E => TV_bool.2 rfl⟩
  case geq => exact ⟨_, _, h, by simp [binOp, Op.intCmp] <;> rfl, fun E => TV_bool.2 rfl⟩
theorem binS_ok {op : BinOp} {t : TypeId} {a b : ByteArray} {L : AV → Prop} (h : abinS op a b L) :
    ∃ v c, L v ∧ (binOp op t (.string a) (.string b)).run P w = .ok c w ∧ ∀ E, TV E v c := by
  cases op <;> simp only [abinS] at h
  case add =>
    refine ⟨_, _, h.2, ?_, fun E => TV_str.2 rfl⟩
    have : ¬ (((a.size + b.size : Nat) : Int) > IntKind.i64.max) := by
      have : IntKind.i64.max = 9223372036854775807 := by decide
      rw [this]; omega
    simp only [binOp, Op.stringOp, if_neg this]; rfl
  case eql => exact ⟨_, _, h, by simp [binOp, Op.stringOp, beqD] <;> rfl, fun E => TV_bool.2 rfl⟩
  case neq => exact ⟨_, _, h, by simp [binOp, Op.stringOp, beqD] <;> rfl, fun E => TV_bool.2 rfl⟩
  case lss => exact ⟨_, _, h, by simp [binOp, Op.stringOp] <;> rfl, fun E => TV_bool.2 rfl⟩
  case leq => exact ⟨_, _, h, by simp [binOp, Op.stringOp, beqD] <;> rfl, fun E => TV_bool.2 rfl⟩
  case gtr => exact ⟨_, _, h, by simp [binOp, Op.stringOp, beqD] <;> rfl, fun E => TV_bool.2 rfl⟩
  case geq => exact ⟨_, _, h, by simp [binOp, Op.stringOp] <;> rfl, fun E => TV_bool.2 rfl⟩
  all_goals exact h.elim
theorem bin_ok {op : BinOp} {t : TypeId} {X Y : Operand} {x y : AV} {c d : Value} (hR : Rep E A w) (hx : TV E x c) (hy : TV E y d) (h : abin op x y fun v => K v A) :
    ResV E A w K ((do pure (Next.value (← (do eqGuard op t X Y c d; binOp op t c d))) : Sem Next).run P w) := by
  unfold abin at h
  split at h
  · simp only [TV_int] at hx hy
    subst hx; subst hy
    obtain ⟨v, c, hk, hr, hv⟩ := binI_ok (P := P) (w := w) (t := t) h
    simp only [Sem.run_bind, guardI, Result.andThen_ok, hr, Sem.run_pure]
    exact Res.val hR hk (hv E)
  · simp only [TV_str] at hx hy
    subst hx; subst hy
    obtain ⟨v, c, hk, hr, hv⟩ := binS_ok (P := P) (w := w) (t := t) h
    simp only [Sem.run_bind, guardS, Result.andThen_ok, hr, Sem.run_pure]
    exact Res.val hR hk (hv E)
  · exact h.elim
theorem un_ok {op : UnOp} {x : AV} {c : Value} (hR : Rep E A w) (hx : TV E x c) (h : aun op x fun v => K v A) :
    ResV E A w K ((do pure (Next.value (← Op.unary op c)) : Sem Next).run P w) := by
  unfold aun at h
  split at h
  · simp only [TV_int] at hx; subst hx
    simp only [Op.unary, Op.intArith, Sem.run_bind, Sem.run_pure, Result.andThen_ok]
    exact Res.val hR h (TV_int.2 rfl)
  · simp only [TV_int] at hx; subst hx
    simp only [Op.unary, Op.intBits, Sem.run_bind, Sem.run_pure, Result.andThen_ok]
    exact Res.val hR h (TV_int.2 rfl)
  · simp only [TV_bool] at hx; subst hx
    simp only [Op.unary, Sem.run_bind, Sem.run_pure, Result.andThen_ok]
    exact Res.val hR h (TV_bool.2 rfl)
  · exact h.elim
end
end AVL

/- The operations that make, read and write variables. -/
namespace AVL
open Go
set_option linter.unusedSimpArgs false
set_option linter.unusedVariables false

theorem shp_comps {E : Emb} {sh : Sh} {l : List AV} {v : AV} {cs : List Value} (h : VRs E l cs) (hs : shp sh l = some v) : VRs E (comps v) cs := by
  unfold shp at hs
  split at hs
  · rename_i v'
    have h0 := h
    simp only [VRs] at h
    obtain ⟨c1, c2, rfl, h1, rfl⟩ := h
    split at hs
    · split at hs
      · rename_i e; subst e
        injection hs with hs; subst hs
        simp only [VR] at h1
        simpa [comps, VRs, VR] using h1
      · cases hs
    · cases hs
    · injection hs with hs; subst hs
      rename_i ha hb
      have : comps v' = [v'] := by cases v' <;> first | rfl | (exact absurd rfl (hb _))
      rw [this]; exact h0
  · cases hs
  · injection hs with hs; subst hs; exact h
  · rename_i k n l
    split at hs
    · rename_i k' n' x
      split at hs
      · rename_i e; obtain ⟨rfl, rfl⟩ := e
        injection hs with hs; subst hs
        exact h
      · cases hs
    · split at hs
      · rename_i x hx
        split at hs
        · rename_i e; subst e
          injection hs with hs; subst hs
          have := intsQ_ok _ _ _ h hx
          subst this
          simp only [comps, VRs, VR]
          refine ⟨_, [], (List.append_nil _).symm, ?_, rfl⟩
          apply List.ext_getElem?
          intro j
          simp only [List.getElem?_map]
          by_cases hj : j < x.length
          · simp [hj, List.getD_eq_getElem?_getD]
          · rw [List.getElem?_eq_none (by omega), List.getElem?_eq_none (by simpa using hj)]; rfl
        · cases hs
      · cases hs

theorem getC_ok {E : Emb} {l : List AV} {off sz : Nat} {sh : Sh} {v : AV} {cs : List Value} {c : Value} (h : VRs E l cs) (hg : getC l off sz sh = some v)
    (hc : ShV sh ((cs.drop off).take sz) c) : TV E v c := by
  unfold getC at hg
  split at hg
  · rename_i r hr
    obtain ⟨h1, _⟩ := dropC_ok l off cs r h hr
    split at hg
    · rename_i x hx
      obtain ⟨h2, _⟩ := takeC_ok r sz _ x h1 hx
      exact shp_ok h2 hg hc
    · cases hg
  · cases hg
theorem getC_len {E : Emb} {l : List AV} {off sz : Nat} {sh : Sh} {v : AV} {cs : List Value} (h : VRs E l cs) (hg : getC l off sz sh = some v) : off + sz ≤ cs.length := by
  unfold getC at hg
  split at hg
  · rename_i r hr
    obtain ⟨h1, h1'⟩ := dropC_ok l off cs r h hr
    split at hg
    · rename_i x hx
      obtain ⟨h2, h2'⟩ := takeC_ok r sz _ x h1 hx
      simp at h2'; omega
    · cases hg
  · cases hg
theorem getC_VR {E : Emb} {l : List AV} {off sz : Nat} {sh : Sh} {v : AV} {cs : List Value} (h : VRs E l cs) (hg : getC l off sz sh = some v) :
    VRs E (comps v) ((cs.drop off).take sz) := by
  unfold getC at hg
  split at hg
  · rename_i r hr
    obtain ⟨h1, _⟩ := dropC_ok l off cs r h hr
    split at hg
    · rename_i x hx
      obtain ⟨h2, _⟩ := takeC_ok r sz _ x h1 hx
      exact shp_comps h2 hg
    · cases hg
  · cases hg
theorem comps_VR {E : Emb} {v : AV} {cs : List Value} (h : VRs E (comps v) cs) : VR E v cs := by
  cases v
  case agg l => simp only [VR]; exact h
  all_goals
    simp only [comps, VRs] at h
    obtain ⟨c1, c2, rfl, h1, rfl⟩ := h
    simpa using h1
theorem VR_comps {E : Emb} {v : AV} {cs : List Value} (h : VR E v cs) : VRs E (comps v) cs := by
  cases v
  case agg l => simp only [VR] at h; exact h
  all_goals exact ⟨cs, [], (List.append_nil _).symm, h, rfl⟩

/-- The int array that stands at a place of a variable. -/
def getI (l : List AV) (o m : Nat) : Option (IntKind × List Int) :=
  match dropC l o with
  | some (.iarr k n xs :: _) => if n = m then some (k, xs) else none
  | _ => none
theorem getI_ok {E : Emb} {l : List AV} {o m : Nat} {k : IntKind} {xs : List Int} {cs : List Value} (h : VRs E l cs) (hg : getI l o m = some (k, xs)) :
    o + m ≤ cs.length ∧ ∀ i, i < m → cs[o + i]? = some (.int k (xs.getD i 0)) := by
  unfold getI at hg
  split at hg
  · rename_i k' n xs' r hd
    split at hg
    · rename_i e; subst e
      injection hg with hg; injection hg with h1 h2; subst h1; subst h2
      obtain ⟨h1, hle⟩ := dropC_ok l o cs _ h hd
      simp only [VRs, VR] at h1
      obtain ⟨c1, c2, he, h2, h3⟩ := h1
      have hlen := congrArg List.length he
      subst h2
      simp at hlen
      refine ⟨by omega, fun i hi => ?_⟩
      rw [← List.getElem?_drop, he, List.getElem?_append_left (by simpa using hi)]
      simp [hi]
    · cases hg
  · cases hg

theorem range_get {α : Type} {f : Nat → α} {n j : Nat} {x : α} (h : ((List.range n).map f)[j]? = some x) : j < n ∧ f j = x := by
  rw [List.getElem?_map] at h
  by_cases hj : j < n
  · rw [List.getElem?_range hj] at h; simp at h; exact ⟨hj, h⟩
  · rw [List.getElem?_eq_none (by simpa using hj)] at h; simp at h

section
variable {P : Program} {w : World} {E : Emb} {A : Heap} {K : AV → Heap → Prop}

/-- Reading. -/
def aload (sh : Sh) (sz : Nat) (p : AV) (A : Heap) (K : AV → Heap → Prop) : Prop :=
  match p with
  | .ptr g o => match A g with
    | some (.var _ l) => match getC l o sz sh with
      | some v => K v A
      | none => False
    | _ => False
  | .pix g o m i => match A g with
    | some (.var _ l) => match getI l o m with
      | some (k, xs) => match sh with
        | .sc => K (.int k (xs.getD i 0)) A
        | .ia k' n => k' = k ∧ n = sz ∧ xs.length = m ∧ i + n ≤ m ∧ K (.iarr k n ((xs.drop i).take n)) A
        | .ag => False
      | none => False
    | _ => False
  | .pel g i o => match A g with
    | some (.irow _ k l) => match sh with
        | .sc => i < l.length ∧ o = 0 ∧ K (.int k (l.getD i 0)) A
        | .ia k' n => k' = k ∧ n = sz ∧ o = 0 ∧ i + n ≤ l.length ∧ K (.iarr k n ((l.drop i).take n)) A
        | .ag => False
    | some (.row _ _ l) => ∃ h : i < l.length, match getC (comps l[i]) o sz sh with
      | some v => K v A
      | none => False
    | _ => False
  | .pval v => match getC (comps v) 0 sz sh with
    | some v => K v A
    | none => False
  | _ => False

theorem cell_at {b off : Nat} {C : Array Value} {t : TypeId} {fz : Nat × Nat} (hb : w.heap[b]? = some (.cells C t fz)) : w.cell? (pA b off) = C[off]? := by
  simp [World.cell?, pA, hb]
theorem Blk.cell {b off : Nat} {C : Array Value} {t : TypeId} (hb : Blk w b C t) : w.cell? (pA b off) = C[off]? := by
  obtain ⟨fz, h, _⟩ := hb; exact cell_at h
theorem frm_cell (hR : Rep E A w) {b off : Nat} {v : Value} (h : E.cell b off = some v) : w.cell? (pA b off) = some v := by
  unfold Emb.cell at h
  cases hf : E.F b with
  | none => rw [hf] at h; simp at h
  | some o =>
    have := hR.frm b o hf
    rw [hf] at h
    simp only [World.cell?, pA, this]
    cases o <;> simp_all

theorem map_take_drop (k : IntKind) (l : List Int) (i n : Nat) (h : i + n ≤ l.length) :
    (List.range n).map (fun j => Value.int k (((l.drop i).take n).getD j 0)) = (List.range n).map (fun j => Value.int k (l.getD (i + j) 0)) := by
  apply List.map_congr_left
  intro j hj
  simp at hj
  simp [List.getD_eq_getElem?_getD, List.getElem?_take, hj]

theorem load_run {t : TypeId} {sh : Sh} {sz : Nat} {p : AV} {c : Value} (hR : Rep E A w) (hs : shOf P t = some (sh, sz)) (hp : TV E p c) (h : aload sh sz p A K) :
    ∃ a v d, c = .pointer (some a) ∧ (loadVar t a).run P w = .ok d w ∧ TV E v d ∧ K v A := by
  have h1 := (shOf_run (w := w) hs).2.2
  have main : ∀ (b off : Nat) (cs : List Value) (v : AV), c = .pointer (some (pA b off)) → cs.length = sz → (∀ j x, cs[j]? = some x → w.cell? (pA b (off + j)) = some x) →
      K v A → (∀ d, ShV sh cs d → TV E v d) → ∃ a v d, c = .pointer (some a) ∧ (loadVar t a).run P w = .ok d w ∧ TV E v d ∧ K v A := by
    intro b off cs v hc hl hcell hk hv
    obtain ⟨d, hrun, hd⟩ := run_loadVar (w := w) hs hl hcell
    exact ⟨_, v, d, hc, hrun, hv d hd, hk⟩
  unfold aload at h
  split at h
  · rename_i g o
    obtain ⟨hg, b, off, ha, rfl⟩ := TV_ptr.1 hp
    split at h
    · rename_i t' l hA
      split at h
      · rename_i v hget
        obtain ⟨b', cs, ha', hF, hb, hv⟩ := hR.cont g _ hA
        rw [ha] at ha'; injection ha' with ha'; injection ha' with e1 e2; subst e1; subst e2
        have hlen := getC_len hv hget
        refine main b (0 + o) ((cs.drop o).take sz) v rfl (by simp; omega) (fun j x hx => ?_) h (fun d hd => getC_ok hv hget hd)
        rw [cell_at hb]
        rw [List.getElem?_take] at hx
        split at hx
        · rw [List.getElem?_drop] at hx
          rw [← hx]; simp
        · cases hx
      · exact h.elim
    · exact h.elim
  · rename_i g o m i
    obtain ⟨hg, him, b, off, ha, rfl⟩ := TV_pix.1 hp
    split at h
    · rename_i t' l hA
      split at h
      · rename_i k xs hget
        obtain ⟨b', cs, ha', hF, hb, hv⟩ := hR.cont g _ hA
        rw [ha] at ha'; injection ha' with ha'; injection ha' with e1 e2; subst e1; subst e2
        obtain ⟨hle, hcs⟩ := getI_ok hv hget
        split at h
        · refine main b (0 + o + i) [.int k (xs.getD i 0)] _ rfl (h1 rfl).symm (fun j x hx => ?_) h (fun d hd => by simp only [ShV] at hd; injection hd with hd; subst hd; exact TV_int.2 rfl)
          cases j with
          | zero =>
            simp at hx; subst hx
            rw [cell_at hb]
            have := hcs i him
            simpa using this
          | succ j => simp at hx
        · rename_i k' n
          obtain ⟨rfl, rfl, hxl, hin, hk⟩ := h
          refine main b (0 + o + i) ((List.range n).map (fun j => Value.int k' (xs.getD (i + j) 0))) _ rfl (by simp) (fun j x hx => ?_) hk (fun d hd => ?_)
          · rw [cell_at hb]
            obtain ⟨hj, rfl⟩ := range_get hx
            have := hcs (i + j) (by omega)
            rw [← Nat.add_assoc] at this
            simpa using this
          · simp only [ShV] at hd; subst hd
            rw [TV_iarr, map_take_drop k' xs i n (by omega)]
        · exact h.elim
      · exact h.elim
    · exact h.elim
  · rename_i g i o
    obtain ⟨hg, b, off, ha, rfl⟩ := TV_pel.1 hp
    split at h
    · rename_i t' k l hA
      obtain ⟨hsz, hroom, hrow⟩ := hR.cont g _ hA
      obtain ⟨hn, _⟩ | ⟨b', off', C, ha', hF, hb, hC, hcs⟩ := hrow
      · rw [hn] at ha; cases ha
      rw [ha] at ha'; injection ha' with ha'; injection ha' with e1 e2; subst e1; subst e2
      rw [hsz] at main ⊢
      split at h
      · obtain ⟨hi, rfl, hk⟩ := h
        refine main b (off + i * 1 + 0) [.int k (l.getD i 0)] _ rfl (h1 rfl).symm (fun j x hx => ?_) hk (fun d hd => by simp only [ShV] at hd; injection hd with hd; subst hd; exact TV_int.2 rfl)
        cases j with
        | zero =>
          simp at hx; subst hx
          rw [hb.cell]
          have := hcs i hi
          simpa using this
        | succ j => simp at hx
      · rename_i k' n
        obtain ⟨rfl, rfl, rfl, hin, hk⟩ := h
        refine main b (off + i * 1 + 0) ((List.range n).map (fun j => Value.int k' (l.getD (i + j) 0))) _ rfl (by simp) (fun j x hx => ?_) hk (fun d hd => ?_)
        · rw [hb.cell]
          obtain ⟨hj, rfl⟩ := range_get hx
          have := hcs (i + j) (by omega)
          rw [← Nat.add_assoc] at this
          simpa using this
        · simp only [ShV] at hd; subst hd
          rw [TV_iarr, map_take_drop k' l i n (by omega)]
      · exact h.elim
    · rename_i t' sz' l hA
      obtain ⟨hsz, hroom, hrow⟩ := hR.cont g _ hA
      obtain ⟨hn, _⟩ | ⟨b', off', C, ha', hF, hb, hC, hcs⟩ := hrow
      · rw [hn] at ha; cases ha
      rw [ha] at ha'; injection ha' with ha'; injection ha' with e1 e2; subst e1; subst e2
      rw [hsz] at main ⊢
      obtain ⟨hi, h⟩ := h
      split at h
      · rename_i v hget
        obtain ⟨cs, hl, hcell, hv⟩ := hcs i l[i] (List.getElem?_eq_getElem hi)
        have hlen := getC_len (VR_comps hv) hget
        refine main b (off + i * sz' + o) ((cs.drop o).take sz) v rfl (by simp; omega) (fun j x hx => ?_) h (fun d hd => getC_ok (VR_comps hv) hget hd)
        rw [hb.cell]
        rw [List.getElem?_take] at hx
        split at hx
        · rw [List.getElem?_drop] at hx
          rw [← hx]
          have := (List.getElem?_eq_some_iff.1 hx).1
          rw [← hcell (o + j) (by omega)]
          congr 1; omega
        · cases hx
      · exact h.elim
    · exact h.elim
  · rename_i v
    obtain ⟨b, off, xs, rfl, hl, hcell, hv⟩ := TV_pval.1 hp
    split at h
    · rename_i v' hget
      have hlen := getC_len (VR_comps hv) hget
      refine main b off ((xs.drop 0).take sz) v' rfl (by simp; omega) (fun j x hx => ?_) h (fun d hd => getC_ok (VR_comps hv) hget hd)
      rw [List.getElem?_take] at hx
      split at hx
      · rw [List.getElem?_drop, Nat.zero_add] at hx
        have := (List.getElem?_eq_some_iff.1 hx).1
        exact frm_cell hR (by rw [hcell j (by omega)]; exact hx)
      · cases hx
    · exact h.elim
  · exact h.elim
theorem load_ok {t : TypeId} {sh : Sh} {sz : Nat} {p : AV} {c : Value} (hR : Rep E A w) (hs : shOf P t = some (sh, sz)) (hp : TV E p c) (h : aload sh sz p A K) :
    ResV E A w K ((do pure (Next.value (← Instr.loadAt t c)) : Sem Next).run P w) := by
  obtain ⟨a, v, d, rfl, hrun, hv, hk⟩ := load_run hR hs hp h
  simp only [Instr.loadAt, Instr.sureAddr, Sem.run_bind, Sem.run_pure, Result.andThen_ok, hrun]
  exact Res.val hR hk hv
end
end AVL

/- Writing variables; making them; addresses of parts. -/
namespace AVL
open Go
set_option linter.unusedSimpArgs false
set_option linter.unusedVariables false

/-- A variable's int array with another element. -/
def setI (l : List AV) (o m i : Nat) (n : Int) : Option (List AV) :=
  match getI l o m with
  | some (k, xs) => setC l o m [.iarr k m (xs.set i n)]
  | none => none
def setEl (e : AV) (o sz : Nat) (x : AV) : Option AV :=
  match e with
  | .agg cs => (setC cs o sz (comps x)).map .agg
  | .iarr k m xs => match x with
    | .int k' n => if k' = k ∧ sz = 1 ∧ o < m ∧ xs.length = m then some (.iarr k m (xs.set o n)) else none
    | _ => if o = 0 ∧ m = sz ∧ AV.sizes (comps x) = sz then some x else none
  | _ => if o = 0 ∧ e.size = sz ∧ AV.sizes (comps x) = sz then some x else none

section
variable {P : Program} {w : World} {E : Emb} {A : Heap} {K : AV → Heap → Prop}

def astore (sh : Sh) (sz : Nat) (p x : AV) (A : Heap) (K : AV → Heap → Prop) : Prop :=
  match shp sh (comps x) with
  | none => False
  | some v => v.st = true ∧ AV.sizes (comps v) = sz ∧ match p with
    | .ptr g o => match A g with
      | some (.var t l) => match setC l o sz (comps v) with
        | some l' => K .undef (A.set g (.var t l'))
        | none => False
      | _ => False
    | .pix g o m i => match A g with
      | some (.var t l) => match v, getI l o m with
        | .int k n, some (k', xs) => k = k' ∧ xs.length = m ∧ (match setI l o m i n with
          | some l' => K .undef (A.set g (.var t l'))
          | none => False)
        | _, _ => False
      | _ => False
    | .pel g i o => match A g with
      | some (.irow t k l) => match v with
        | .int k' n => k = k' ∧ i < l.length ∧ o = 0 ∧ K .undef (A.set g (.irow t k (l.set i n)))
        | _ => False
      | some (.row t s l) => ∃ h : i < l.length, match setEl l[i] o sz v with
        | some e => K .undef (A.set g (.row t s (l.set i e)))
        | none => False
      | _ => False
    | _ => False

theorem st_good {v : AV} (h : v.st = true) : good v = true := by cases v <;> simp_all [AV.st, good]

theorem stores_blk (P : Program) (g o : Nat) (t : TypeId) (fz : Nat × Nat) : ∀ (vs : List Value) (i : Nat) (cur : Array Value) (w : World), w.heap[g]? = some (.cells cur t fz) → (cur.size ≤ fz.1 ∨ fz.1 = fz.2) → o + i + vs.length ≤ cur.size → (∀ v ∈ vs, v.oneCell' = true) →
    (storeCells ⟨g, o, none⟩ vs i).run P w = .ok () (w.setRow g (cur.toList.take (o + i) ++ vs ++ cur.toList.drop (o + i + vs.length)).toArray)
  | [], i, cur, w, hg, _, _, _ => by
    simp only [storeCells, List.append_nil, List.length_nil, Nat.add_zero, List.take_append_drop, Array.toArray_toList]
    rw [setRow_self w g cur t fz hg]
    rfl
  | v :: rest, i, cur, w, hg, hfz, hl, h1 => by
    have hi : o + i < cur.size := by simp at hl; omega
    have hadd : (⟨g, o, none⟩ : Addr).add i = ⟨g, o + i, none⟩ := by unfold Addr.add; split <;> simp_all
    have hcell : w.cell? ⟨g, o + i, none⟩ = some cur[o + i] := by simp [World.cell?, hg, hi]
    have hfro : w.frozen? ⟨g, o + i, none⟩ = false := by
      obtain ⟨lo, hi'⟩ := fz
      simp only [World.frozen?, hg, Bool.and_eq_false_iff, decide_eq_false_iff_not]
      simp only at hfz
      omega
    have hst : (store ((⟨g, o, none⟩ : Addr).add i) v).run P w = .ok () (w.setRow g (cur.setIfInBounds (o + i) v)) := by
      rw [hadd, run_store P w _ v _ (h1 v (by simp)), hcell]
      simp [hfro, setCell_eq_setRow w g (o + i) cur t fz v hg]
    have ih := stores_blk P g o t fz rest (i + 1) (cur.setIfInBounds (o + i) v) (w.setRow g (cur.setIfInBounds (o + i) v)) (setRow_heap w g cur _ t _ hg) (by simpa using hfz) (by simp at hl ⊢; omega) (fun x hx => h1 x (by simp [hx]))
    simp only [storeCells, Sem.run_bind, hst, Result.andThen_ok, ih, setRow_setRow]
    congr 3
    have e := list_seg_step cur.toList (o + i) v rest (by simp at hl ⊢; omega)
    simpa [Array.toList_setIfInBounds, Nat.add_assoc] using e
theorem Blk.stores (P : Program) {w : World} {b : Nat} {C : Array Value} {t : TypeId} (h : Blk w b C t) (o : Nat) (vs : List Value) (hl : o + vs.length ≤ C.size) (h1 : ∀ v ∈ vs, v.oneCell' = true) :
    (storeCells ⟨b, o, none⟩ vs).run P w = .ok () (w.setRow b (C.toList.take o ++ vs ++ C.toList.drop (o + vs.length)).toArray) := by
  obtain ⟨fz, h, k⟩ := h
  have := stores_blk P b o t fz vs 0 C w h k (by simpa using hl) h1
  simpa only [Nat.add_zero] using this
theorem Blk.stored {w : World} {b : Nat} {C : Array Value} {t : TypeId} (h : Blk w b C t) {o : Nat} {vs : List Value} (hl : o + vs.length ≤ C.size) : Blk (w.setRow b (C.toList.take o ++ vs ++ C.toList.drop (o + vs.length)).toArray) b (C.toList.take o ++ vs ++ C.toList.drop (o + vs.length)).toArray t :=
  h.setRow (by simp; omega)
/-- What the machine's store does to a block. -/
theorem run_storeVar {t : TypeId} {sh : Sh} {sz : Nat} (hs : shOf P t = some (sh, sz)) {b off : Nat} {C : Array Value} {tb : TypeId} (hb : Blk w b C tb) {d : Value}
    (hsz : d.cells.size = sz) (ho : ∀ x ∈ d.cells.toList, x.oneCell' = true) (hle : off + sz ≤ C.size) :
    (storeVar t (pA b off) d).run P w = .ok () (w.setRow b (C.toList.take off ++ d.cells.toList ++ C.toList.drop (off + sz)).toArray) := by
  obtain ⟨_, h2, _⟩ := shOf_run (w := w) hs
  have := hb.stores P off d.cells.toList (by simpa [hsz] using hle) ho
  simp only [Array.length_toList, hsz] at this
  have hst : (storeCells (pA b off) d.cells.toList).run P w = .ok () (w.setRow b (C.toList.take off ++ d.cells.toList ++ C.toList.drop (off + sz)).toArray) := this
  simp [storeVar, Sem.run_bind, h2, hsz, hst]

theorem setRow_heap_eq (w : World) (b : Nat) {C D : Array Value} {t : TypeId} (hb : w.heap[b]? = some (.cells C t (0, 0))) : (w.setRow b D).heap[b]? = some (.cells D t (0, 0)) := setRow_heap w b C D t (0, 0) hb
theorem setRow_heap_ne (w : World) (b x : Nat) (D : Array Value) (h : x ≠ b) : (w.setRow b D).heap[x]? = w.heap[x]? := by
  show (w.heap.modify b _)[x]? = _
  rw [Array.getElem?_modify]
  simp [Ne.symm h]
theorem Same.setRow (w : World) (b : Nat) (D : Array Value) : Same w (w.setRow b D) := ⟨rfl, rfl, by rw [size_setRow]; exact Nat.le_refl _⟩

theorem seg_get {α : Type} (L ns : List α) (off : Nat) (h : off + ns.length ≤ L.length) (i : Nat) :
    (L.take off ++ ns ++ L.drop (off + ns.length))[i]? = if off ≤ i ∧ i < off + ns.length then ns[i - off]? else L[i]? := by
  by_cases h1 : i < off
  · rw [List.append_assoc, List.getElem?_append_left (by simp; omega), List.getElem?_take, if_pos h1, if_neg (by omega)]
  · by_cases h2 : i < off + ns.length
    · rw [if_pos ⟨by omega, h2⟩, List.getElem?_append_left (by simp; omega), List.getElem?_append_right (by simp; omega)]
      congr 1; simp; omega
    · rw [if_neg (by omega), List.getElem?_append_right (by simp; omega), List.getElem?_drop]
      congr 1; simp; omega

theorem Res.skip {E : Emb} {A' : Heap} {w w' : World} {K : AV → Heap → Prop} (hR : Rep E A' w') (hk : K .undef A') (hs : Same w w') : Res E w K (.ok .skip w') :=
  ⟨.undef, A', E, w', hk, hR, Emb.Le.refl E, hs, .inr ⟨rfl, rfl⟩⟩

theorem store_ok {t : TypeId} {sh : Sh} {sz : Nat} {p x : AV} {c d : Value} (hR : Rep E A w) (hs : shOf P t = some (sh, sz)) (hp : TV E p c) (hx : TV E x d) (hgx : good x = true) (h : astore sh sz p x A K) :
    Res E w K ((do Instr.storeAt t c d; pure Next.skip : Sem Next).run P w) := by
  unfold astore at h
  split at h
  · exact h.elim
  rename_i v hv
  obtain ⟨hst, hsize, h⟩ := h
  have hcx := comps_ok hgx hx
  have hcv := shp_comps hcx hv
  have hdl : d.cells.toList.length = sz := by rw [VRs_len _ _ hcv]; exact hsize
  have hdl' : d.cells.size = sz := by simpa using hdl
  have hone : ∀ y ∈ d.cells.toList, y.oneCell' = true := sts_one (comps v) _ (by cases v <;> simp_all [comps, AV.st, AV.sts]) hcv
  have main : ∀ (b off : Nat) (C : Array Value) (tb : TypeId), c = .pointer (some (pA b off)) → Blk w b C tb → off + sz ≤ C.size →
      (∀ A', Rep E A' (w.setRow b (C.toList.take off ++ d.cells.toList ++ C.toList.drop (off + sz)).toArray) → K .undef A' → Res E w K ((do Instr.storeAt t c d; pure Next.skip : Sem Next).run P w)) := by
    intro b off C tb hc hb hle A' hR' hk
    subst hc
    simp only [Instr.storeAt, Instr.sureAddr, Sem.run_bind, Sem.run_pure, Result.andThen_ok, run_storeVar hs hb hdl' hone hle]
    exact Res.skip hR' hk (Same.setRow _ _ _)
  split at h
  · rename_i g o
    obtain ⟨hg, b, off, ha, rfl⟩ := TV_ptr.1 hp
    split at h
    · rename_i t' l hA
      split at h
      · rename_i l' hset
        obtain ⟨b', cs, ha', hF, hb, hvl⟩ := hR.cont g _ hA
        rw [ha] at ha'; injection ha' with ha'; injection ha' with e1 e2; subst e1; subst e2
        obtain ⟨hnew, hle⟩ := setC_ok hvl hcv hset
        refine main b (0 + o) _ _ rfl (Blk.of0 hb) (by simpa using hle) _ ?_ h
        refine hR.change hA ha (fun y hy => setRow_heap_ne _ _ _ _ hy) ⟨b, _, ha, hF, setRow_heap_eq _ _ hb, ?_⟩
        simpa using hnew
      · exact h.elim
    · exact h.elim
  · rename_i g o m i
    obtain ⟨hg, him, b, off, ha, rfl⟩ := TV_pix.1 hp
    split at h
    · rename_i t' l hA
      split at h
      · rename_i _ k n k' xs hget
        obtain ⟨rfl, hxl, h⟩ := h
        split at h
        · rename_i l' hset
          obtain ⟨b', cs, ha', hF, hb, hvl⟩ := hR.cont g _ hA
          rw [ha] at ha'; injection ha' with ha'; injection ha' with e1 e2; subst e1; subst e2
          obtain ⟨hle, hcs⟩ := getI_ok hvl hget
          simp only [setI, hget] at hset
          simp only [comps, VRs, VR, AV.sizes, AV.size] at hcv hsize
          obtain ⟨c1, c2, hdc, rfl, rfl⟩ := hcv
          simp only [List.append_nil] at hdc
          have hsz1 : sz = 1 := by omega
          subst hsz1
          have hnv : VRs E [AV.iarr k m (xs.set i n)] ((List.range m).map (fun j => Value.int k ((xs.set i n).getD j 0))) := by
            simp only [VRs, VR]; exact ⟨_, [], (List.append_nil _).symm, rfl, rfl⟩
          obtain ⟨hnew, hle2⟩ := setC_ok hvl hnv hset
          refine main b (0 + o + i) _ _ rfl (Blk.of0 hb) (by simp; omega) _ ?_ h
          refine hR.change hA ha (fun y hy => setRow_heap_ne _ _ _ _ hy) ⟨b, _, ha, hF, setRow_heap_eq _ _ hb, ?_⟩
          have heq : cs.take (0 + o + i) ++ d.cells.toList ++ cs.drop (0 + o + i + 1) = cs.take o ++ ((List.range m).map (fun j => Value.int k ((xs.set i n).getD j 0)) ++ cs.drop (o + m)) := by
            apply List.ext_getElem?
            intro q
            rw [← List.append_assoc, hdc]
            have s1 := seg_get cs [Value.int k n] (o + i) (by simp; omega) q
            have s2 := seg_get cs ((List.range m).map (fun j => Value.int k ((xs.set i n).getD j 0))) o (by simpa using hle) q
            simp only [List.length_map, List.length_range, List.length_singleton] at s1 s2
            rw [Nat.zero_add, s1, s2]
            by_cases hq : o ≤ q ∧ q < o + m
            · rw [if_pos hq]
              by_cases hq2 : o + i ≤ q ∧ q < o + i + 1
              · have : q = o + i := by omega
                subst this
                rw [if_pos (by omega)]
                simp [him, hxl]
              · rw [if_neg hq2]
                have h3 := hcs (q - o) (by omega)
                rw [show o + (q - o) = q by omega] at h3
                rw [h3]
                simp only [List.getElem?_map]
                rw [List.getElem?_range (by omega)]
                simp [List.getD_eq_getElem?_getD, List.getElem?_set, show ¬ i = q - o by omega]
            · rw [if_neg hq, if_neg (by omega)]
          have hfin : VRs E l' (cs.take (0 + o + i) ++ d.cells.toList ++ cs.drop (0 + o + i + 1)) := by rw [heq]; exact hnew
          simpa using hfin
        · exact h.elim
      · exact h.elim
    · exact h.elim
  · rename_i g i o
    obtain ⟨hg, b, off, ha, rfl⟩ := TV_pel.1 hp
    split at h
    · rename_i t' k l hA
      split at h
      · rename_i k' n
        obtain ⟨rfl, hi, rfl, hk⟩ := h
        obtain ⟨hsz, hroom, hrow⟩ := hR.cont g _ hA
        obtain ⟨hn, _⟩ | ⟨b', off', C, ha', hF, hb, hC, hcs⟩ := hrow
        · rw [hn] at ha; cases ha
        rw [ha] at ha'; injection ha' with ha'; injection ha' with e1 e2; subst e1; subst e2
        rw [hsz] at main ⊢
        simp only [comps, VRs, VR, AV.sizes, AV.size] at hcv hsize
        obtain ⟨c1, c2, hdc, rfl, rfl⟩ := hcv
        simp only [List.append_nil] at hdc
        have hsz1 : sz = 1 := by omega
        subst hsz1
        refine main b (off + i * 1 + 0) _ _ rfl hb (by omega) _ ?_ hk
        refine hR.change hA ha (fun y hy => setRow_heap_ne _ _ _ _ hy) ⟨hsz, by simpa using hroom, .inr ⟨b, off, _, ha, hF, hb.setRow (by simp; omega), ?_, fun j hj => ?_⟩⟩
        · rw [hdc]; simp; omega
        · rw [hdc]
          have s1 := seg_get C.toList [Value.int k n] (off + i) (by simp; omega) (off + j)
          simp only [List.length_singleton] at s1
          simp only [Nat.mul_one, Nat.add_zero, List.getElem?_toArray]
          rw [s1]
          simp at hj
          by_cases hq : off + i ≤ off + j ∧ off + j < off + i + 1
          · have : j = i := by omega
            subst this
            rw [if_pos hq]
            simp [hj]
          · rw [if_neg hq]
            have := hcs j hj
            simp [List.getD_eq_getElem?_getD, List.getElem?_set, show ¬ i = j by omega] at this ⊢
            exact this
      · exact h.elim
    · rename_i t' s l hA
      obtain ⟨hi, h⟩ := h
      split at h
      · rename_i e hset
        obtain ⟨hsz, hroom, hrow⟩ := hR.cont g _ hA
        obtain ⟨hn, _⟩ | ⟨b', off', C, ha', hF, hb, hC, hcs⟩ := hrow
        · rw [hn] at ha; cases ha
        rw [ha] at ha'; injection ha' with ha'; injection ha' with e1 e2; subst e1; subst e2
        rw [hsz] at main ⊢
        obtain ⟨ci, hl, hcell, hvi⟩ := hcs i l[i] (List.getElem?_eq_getElem hi)
        -- the element's new cells
        have hel : ∃ ne, ne = ci.take o ++ (d.cells.toList ++ ci.drop (o + sz)) ∧ o + sz ≤ ci.length ∧ VR E e ne := by
          unfold setEl at hset
          split at hset
          · rename_i cse hle
            cases hsc : setC cse o sz (comps v) with
            | none => rw [hsc] at hset; simp at hset
            | some l2 =>
              rw [hsc] at hset; simp at hset; subst hset
              rw [hle] at hvi
              simp only [VR] at hvi
              obtain ⟨hnew, hle2⟩ := setC_ok hvi hcv hsc
              exact ⟨_, rfl, hle2, by simpa only [VR] using hnew⟩
          · rename_i k m xs hle
            rw [hle] at hvi
            split at hset
            · rename_i k' n
              split at hset
              · rename_i hh
                obtain ⟨rfl, rfl, h5, h6⟩ := hh
                injection hset with hset; subst hset
                simp only [VR] at hvi
                simp only [comps, VRs, VR] at hcv
                obtain ⟨c1, c2, hdc, rfl, rfl⟩ := hcv
                simp only [List.append_nil] at hdc
                subst hvi
                refine ⟨_, rfl, by simp; omega, ?_⟩
                simp only [VR]
                rw [hdc]
                apply List.ext_getElem?
                intro q
                have s2 := seg_get ((List.range m).map fun j => Value.int k' (xs.getD j 0)) [Value.int k' n] o (by simp; omega) q
                simp only [List.length_singleton] at s2
                rw [← List.append_assoc, s2]
                simp only [List.getElem?_map]
                by_cases hq : q < m
                · rw [List.getElem?_range hq]
                  by_cases hqo : o ≤ q ∧ q < o + 1
                  · have : q = o := by omega
                    subst this
                    rw [if_pos hqo]
                    simp [h6, hq]
                  · rw [if_neg hqo]
                    simp [List.getD_eq_getElem?_getD, List.getElem?_set, show ¬ o = q by omega]
                · rw [List.getElem?_eq_none (l := List.range m) (by simpa using hq), if_neg (by omega)]; rfl
              · cases hset
            · split at hset
              · rename_i hh
                obtain ⟨rfl, h5, h6⟩ := hh
                injection hset with hset; subst hset
                have h7 := VR_len _ _ hvi
                simp only [AV.size] at h7
                have e2 : ci.take 0 ++ (d.cells.toList ++ ci.drop (0 + sz)) = d.cells.toList := by
                  rw [List.drop_of_length_le (by omega)]; simp
                exact ⟨_, rfl, by omega, by rw [e2]; exact comps_VR hcv⟩
              · cases hset
          · split at hset
            · rename_i hh
              obtain ⟨rfl, h5, h6⟩ := hh
              injection hset with hset; subst hset
              have h7 := VR_len _ _ hvi
              have e2 : ci.take 0 ++ (d.cells.toList ++ ci.drop (0 + sz)) = d.cells.toList := by
                rw [List.drop_of_length_le (by omega)]; simp
              exact ⟨_, rfl, by omega, by rw [e2]; exact comps_VR hcv⟩
            · cases hset
        obtain ⟨ne, hne, hole, hve⟩ := hel
        have hls : i * s + s ≤ (E.loc g).room * s := by
          have : (i + 1) * s ≤ (E.loc g).room * s := Nat.mul_le_mul_right _ (by omega)
          rw [Nat.succ_mul] at this; exact this
        have hnl : ne.length = s := by
          rw [hne]; simp [hdl]; omega
        refine main b (off + i * s + o) _ _ rfl hb (by omega) _ ?_ h
        refine hR.change hA ha (fun y hy => setRow_heap_ne _ _ _ _ hy) ⟨hsz, by simpa using hroom, .inr ⟨b, off, _, ha, hF, hb.setRow (by simp; omega), ?_, fun j v' hj => ?_⟩⟩
        · simp only [List.size_toArray, List.length_append, List.length_take, List.length_drop, Array.length_toList, hdl]; omega
        · have s1 := fun q => seg_get C.toList d.cells.toList (off + i * s + o) (by simp only [Array.length_toList, hdl]; omega) q
          simp only [hdl] at s1
          rw [List.getElem?_set] at hj
          split at hj
          · rename_i e'; subst e'
            injection hj with hj; subst hj
            refine ⟨ne, hnl, fun q hq => ?_, hve⟩
            rw [List.getElem?_toArray, s1]
            have s2 := seg_get ci d.cells.toList o (by rw [hdl]; exact hole) q
            rw [hne, ← List.append_assoc]
            simp only [hdl] at s2
            rw [s2]
            by_cases hq2 : o ≤ q ∧ q < o + sz
            · rw [if_pos (by omega), if_pos hq2]; congr 1; omega
            · rw [if_neg (by omega), if_neg hq2]
              have := hcell q hq
              simpa using this
          · rename_i e'
            obtain ⟨cj, hlj, hcj, hvj⟩ := hcs j v' hj
            refine ⟨cj, hlj, fun q hq => ?_, hvj⟩
            rw [List.getElem?_toArray, s1]
            rw [if_neg, ← hcj q hq]
            · simp
            · rcases Nat.lt_or_gt_of_ne e' with hlt | hlt
              · have : (i + 1) * s ≤ j * s := Nat.mul_le_mul_right _ hlt
                rw [Nat.succ_mul] at this; omega
              · have : (j + 1) * s ≤ i * s := Nat.mul_le_mul_right _ hlt
                rw [Nat.succ_mul] at this; omega
      · exact h.elim
    · exact h.elim
  · exact h.elim

/-! ### making -/
theorem alloc_gen (hR : Rep E A w) {t : TypeId} {l : List AV} {cs : List Value} (hv : VRs E l cs) (h : ∀ g, A g = none → K (.ptr g 0) (A.set g (.var t l))) {c : Value}
    (hc : c = .pointer (some ⟨w.heap.size, 0, none⟩)) : Res E w K (.ok (.value c) (w.alloc (.cells cs.toArray t))) := by
  subst hc
  refine ⟨.ptr E.N 0, A.set E.N (.var t l), E.push ⟨some (w.heap.size, 0), 1, 0⟩, w.alloc (.cells cs.toArray t), h _ hR.fresh, hR.alloc _ _ 0 rfl _ ?_, E.push_le _, Same.alloc _ _, .inl ⟨_, rfl, ?_⟩⟩
  · exact ⟨w.heap.size, cs, by rw [Emb.push_loc], by
      cases hF : E.F w.heap.size with
      | none => exact hF
      | some o => exact absurd (Array.getElem?_eq_some_iff.1 (hR.frm _ _ hF)).1 (Nat.lt_irrefl _), by rw [heap_alloc_eq]; simp, VRs_mono (E.push_le _) l cs hv⟩
  · exact TV_ptr.2 ⟨Nat.lt_succ_self _, w.heap.size, 0, by rw [Emb.push_loc], rfl⟩

/-- A type's zero value, part by part. -/
def zeroL (P : Program) : Nat → TypeId → Option (List AV)
  | 0, _ => none
  | d + 1, t => match P.underlying t with
    | some .bool => some [.bool false]
    | some (.int k) => some [.int k 0]
    | some .string => some [.str ByteArray.empty]
    | some (.slice _) => some [.nilS]
    | some (.pointer _) => some [.nilP]
    | some (.func ..) => some [.nilF]
    | some (.interface _) => some [.nilI]
    | some (.map ..) => some [.nilM]
    | some (.array n e) => match P.underlying e with
      | some (.int k) => some [.iarr k n (List.replicate n 0)]
      | _ => (zeroL P d e).map fun l => (List.replicate n l).flatten
    | some (.struct fs) => (fs.toList.mapM fun f => zeroL P d f.type).map List.flatten
    | _ => none

/-- The cells of a value without references. -/
def flatV : AV → Option (List Value)
  | .int k n => some [.int k n]
  | .bool b => some [.bool b]
  | .str s => some [.string s]
  | .iarr k n l => some ((List.range n).map fun j => .int k (l.getD j 0))
  | .nilS => some [.slice none 0 0]
  | .nilP => some [.pointer none]
  | .nilF => some [.nilFunc]
  | .nilI => some [.nilIface]
  | .nilM => some [.map none]
  | _ => none
def flatL : List AV → Option (List Value)
  | [] => some []
  | v :: r => match flatV v, flatL r with
    | some a, some b => some (a ++ b)
    | _, _ => none
theorem flatV_ok {v : AV} {cs : List Value} (h : flatV v = some cs) : VR E v cs := by
  unfold flatV at h
  split at h <;> first | (injection h with h; subst h; simp [VR]) | cases h
theorem flatL_ok : ∀ (l : List AV) (cs : List Value), flatL l = some cs → VRs E l cs
  | [], cs, h => by simp [flatL] at h; subst h; simp [VRs]
  | v :: r, cs, h => by
    simp only [flatL] at h
    split at h
    · rename_i a b h1 h2
      injection h with h; subst h
      simp only [VRs]
      exact ⟨a, b, rfl, flatV_ok h1, flatL_ok r b h2⟩
    · cases h
/-- Equality of plain cells. -/
def eqC : Value → Value → Bool
  | .int k n, .int k' n' => k == k' && n == n'
  | .bool a, .bool b => a == b
  | .string a, .string b => a.data.toList == b.data.toList
  | .slice none 0 0, .slice none 0 0 => true
  | .pointer none, .pointer none => true
  | .nilFunc, .nilFunc => true
  | .nilIface, .nilIface => true
  | .map none, .map none => true
  | _, _ => false
theorem eqC_ok {a b : Value} (h : eqC a b = true) : a = b := by
  unfold eqC at h
  split at h <;> simp_all
  rename_i a b
  cases a; cases b; simp_all
def eqCs : List Value → List Value → Bool
  | [], [] => true
  | a :: r, b :: s => eqC a b && eqCs r s
  | _, _ => false
theorem eqCs_ok : ∀ {a b : List Value}, eqCs a b = true → a = b
  | [], [], _ => rfl
  | x :: r, y :: s, h => by
    simp only [eqCs, Bool.and_eq_true] at h
    rw [eqC_ok h.1, eqCs_ok h.2]
  | [], _ :: _, h => by simp [eqCs] at h
  | _ :: _, [], h => by simp [eqCs] at h
/-- The zero value, checked against the program's own. -/
def zeroOf (P : Program) (t : TypeId) : Option (List AV) :=
  match zeroL P 8 t, (P.info? t).bind (·.zero) with
  | some l, some z => match flatL l with
    | some cs => if eqCs cs z.cells.toList then some l else none
    | none => none
  | _, _ => none
theorem zeroOf_ok {t : TypeId} {l : List AV} (h : zeroOf P t = some l) : ∃ z, (zeroValue t).run P w = .ok z w ∧ VRs E l z.cells.toList := by
  unfold zeroOf at h
  split at h
  · rename_i l' z hl hz
    split at h
    · rename_i cs hcs
      split at h
      · rename_i he
        injection h with h; subst h
        cases hi : P.info? t with
        | none => rw [hi] at hz; simp at hz
        | some i =>
          rw [hi] at hz
          have hz' : i.zero = some z := hz
          refine ⟨z, by simp [zeroValue, typeInfo, hi, hz'], ?_⟩
          rw [← eqCs_ok he]
          exact flatL_ok _ _ hcs
      · cases h
    · cases h
  · cases h

theorem alloc_ok {t : TypeId} {l : List AV} (hR : Rep E A w) (hz : zeroOf P t = some l) (h : ∀ g, A g = none → K (.ptr g 0) (A.set g (.var t l))) :
    Res E w K ((do pure (Next.value (← Instr.alloc t true (.tuple #[]))) : Sem Next).run P w) := by
  obtain ⟨z, hz, hv⟩ := zeroOf_ok (w := w) (E := E) hz
  have : (do pure (Next.value (← Instr.alloc t true (.tuple #[]))) : Sem Next).run P w = .ok (.value (.pointer (some ⟨w.heap.size, 0, none⟩))) (w.alloc (.cells z.cells.toList.toArray t)) := by
    simp only [Instr.alloc, Sem.run_bind, hz, Result.andThen_ok, newVar, newRow, newObj, Array.toArray_toList]
    rfl
  rw [this]
  exact alloc_gen hR hv h rfl

def abox (t : TypeId) (sh : Sh) (x : AV) (A : Heap) (K : AV → Heap → Prop) : Prop :=
  match shp sh (comps x) with
  | none => False
  | some v => ∀ g, A g = none → K (.ptr g 0) (A.set g (.var t (comps v)))
theorem box_ok {t : TypeId} {sh : Sh} {x : AV} {c : Value} (hR : Rep E A w) (hx : TV E x c) (hg : good x = true) (h : abox t sh x A K) :
    Res E w K ((do pure (Next.value (← Instr.box t c)) : Sem Next).run P w) := by
  unfold abox at h
  split at h
  · exact h.elim
  rename_i v hv
  have hcv := shp_comps (comps_ok hg hx) hv
  have : (do pure (Next.value (← Instr.box t c)) : Sem Next).run P w = .ok (.value (.pointer (some ⟨w.heap.size, 0, none⟩))) (w.alloc (.cells c.cells.toList.toArray t)) := by
    simp only [Instr.box, newVar, newRow, newObj, Array.toArray_toList]
    rfl
  rw [this]
  exact alloc_gen hR hcv h rfl
end
end AVL

/- Structs, arrays and slices written out; addresses of fields and elements; parts of values. -/
namespace AVL
open Go
set_option linter.unusedSimpArgs false
set_option linter.unusedVariables false

theorem foldl_set : ∀ (vs : List Value) (i off : Nat) (cs : Array Value), off + i + vs.length ≤ cs.size →
    ((vs.zipIdx i).foldl (fun cs (x : Value × Nat) => cs.setIfInBounds (off + x.2) x.1) cs) = (cs.toList.take (off + i) ++ vs ++ cs.toList.drop (off + i + vs.length)).toArray
  | [], i, off, cs, h => by simp
  | v :: r, i, off, cs, h => by
    simp only [List.zipIdx_cons, List.foldl_cons, List.length_cons] at h ⊢
    rw [foldl_set r (i + 1) off _ (by simp; omega)]
    congr 1
    apply List.ext_getElem?
    intro q
    have e1 := seg_get (cs.setIfInBounds (off + i) v).toList r (off + (i + 1)) (by simp; omega) q
    have e2 := seg_get cs.toList (v :: r) (off + i) (by simp; omega) q
    simp only [List.length_cons] at e2
    rw [e1, e2]
    by_cases h1 : off + (i + 1) ≤ q ∧ q < off + (i + 1) + r.length
    · rw [if_pos h1, if_pos (by omega)]
      rw [show q - (off + i) = (q - (off + (i + 1))) + 1 by omega, List.getElem?_cons_succ]
    · rw [if_neg h1]
      by_cases h2 : q = off + i
      · subst h2
        rw [if_pos (by omega), Nat.sub_self]
        simp [show off + i < cs.size by omega]
      · rw [if_neg (by omega)]
        simp [Array.getElem?_setIfInBounds, show ¬ off + i = q by omega]

theorem fill_cons {place : Nat → Option (Nat × Nat)} {cells : Array Value} {i : Nat} {v : Value} {r : List (Nat × Value)} {off sz : Nat} (hp : place i = some (off, sz))
    (hv : v.cells.size = sz) (hl : off + sz ≤ cells.size) :
    Instr.fill place cells ((i, v) :: r) = Instr.fill place (cells.toList.take off ++ (v.cells.toList ++ cells.toList.drop (off + sz))).toArray r := by
  have e := foldl_set v.cells.toList 0 off cells (by simpa [hv] using hl)
  simp only [Nat.add_zero, Array.length_toList, hv, List.append_assoc] at e
  simp only [Instr.fill, hp]
  rw [if_neg (by simp [hv]; omega)]
  congr 1
  rw [← e, ← Array.foldl_toList]
  simp [Array.toList_zipIdx]

def foldP (env : AEnv) : List AV → List (Nat × Nat × AO) → Option (List AV)
  | l, [] => some l
  | l, (o, s, x) :: r => if good (ev env x) = true ∧ AV.sizes (comps (ev env x)) = s then
      match setC l o s (comps (ev env x)) with
      | some l' => foldP env l' r
      | none => none
    else none

/-- Where the parts of a type lie: their offsets and numbers of cells. -/
def placesOf (P : Program) (t : TypeId) : Option (Nat → Option (Nat × Nat)) :=
  match P.underlying t with
  | some (.struct fs) => some fun i => match fs[i]? with
    | some f => (P.info? f.type).map fun j => (f.offset, j.size)
    | none => none
  | some (.array _ e) => match P.info? e with
    | some j => some fun i => some (i * j.size, j.size)
    | none => none
  | _ => none
def trParts (pl : Nat → Option (Nat × Nat)) : List (Nat × Operand) → Option (List (Nat × Nat × AO))
  | [] => some []
  | (i, x) :: r => match pl i, trO x, trParts pl r with
    | some (o, s), some ax, some l => some ((o, s, ax) :: l)
    | _, _, _ => none
theorem foldP_ok {E : Emb} {env : AEnv} {a : Act} (he : EnvR E env a) {place : Nat → Option (Nat × Nat)} : ∀ (ps : List (Nat × Operand)) (qs : List (Nat × Nat × AO)) (l l' : List AV) (cells : Array Value),
    trParts place ps = some qs → VRs E l cells.toList → foldP env l qs = some l' →
    ∃ cells', Instr.fill place cells (ps.map fun p => (p.1, a.eval p.2)) = some cells' ∧ VRs E l' cells'.toList
  | [], qs, l, l', cells, hq, hv, h => by
    simp only [trParts] at hq; injection hq with hq; subst hq
    simp only [foldP] at h; injection h with h; subst h; exact ⟨cells, rfl, hv⟩
  | (i, x) :: ps, qs, l, l', cells, hq, hv, h => by
    simp only [trParts] at hq
    split at hq
    · rename_i o s ax qs' hp hx hr
      injection hq with hq; subst hq
      simp only [foldP] at h
      split at h
      · rename_i hg
        split at h
        · rename_i l2 hset
          have hc := comps_ok hg.1 (ev_ok he hx)
          have hlen := VRs_len _ _ hc
          rw [hg.2] at hlen
          obtain ⟨hnew, hle⟩ := setC_ok hv hc hset
          simp only [List.map_cons]
          rw [fill_cons hp (by simpa using hlen) (by simpa using hle)]
          exact foldP_ok he ps qs' l2 l' _ hr (by simpa using hnew) h
        · cases h
      · cases h
    · cases hq

section
variable {P : Program} {w : World} {E : Emb} {A : Heap} {K : AV → Heap → Prop}
def abuild (sh : Sh) (z : List AV) (qs : List (Nat × Nat × AO)) (env : AEnv) (A : Heap) (K : AV → Heap → Prop) : Prop :=
  match foldP env z qs with
  | some l => match shp sh l with
    | some v => K v A
    | none => False
  | none => False
theorem allSized {fs : Array Field} (h : ∀ f ∈ fs, (P.info? f.type).isSome = true) :
    (fs.mapM fun f => (do pure (f.offset, ← Go.sizeOf f.type) : Sem (Nat × Nat))).run P w = .ok (fs.map fun f => (f.offset, P.cellsOf f.type)) w := by
  rw [Array.mapM_eq_mapM_toList]
  have key : ∀ (l : List Field), (∀ f ∈ l, (P.info? f.type).isSome = true) → (l.mapM fun f => (do pure (f.offset, ← Go.sizeOf f.type) : Sem (Nat × Nat))).run P w = .ok (l.map fun f => (f.offset, P.cellsOf f.type)) w := by
    intro l
    induction l with
    | nil => intro _; rfl
    | cons f r ih =>
      intro hh
      obtain ⟨i, hi⟩ := Option.isSome_iff_exists.1 (hh f (by simp))
      have hs : (Go.sizeOf f.type).run P w = .ok (P.cellsOf f.type) w := by simp [Go.sizeOf, typeInfo, hi, Program.cellsOf]
      simp only [List.mapM_cons, Sem.run_bind, hs, Result.andThen_ok, Sem.run_pure, ih (fun g hg => hh g (by simp [hg])), List.map_cons]
  have := key fs.toList (fun f hf => h f (by simpa using hf))
  show ((fs.toList.mapM fun f => (do pure (f.offset, ← Go.sizeOf f.type) : Sem (Nat × Nat))) >>= (pure ∘ List.toArray)).run P w = _
  rw [Sem.run_bind, this]
  show Result.ok (List.map (fun f => (f.offset, P.cellsOf f.type)) fs.toList).toArray w = _
  congr 1
  apply Array.toList_inj.1
  simp
/-- The fields' types are known. -/
def sizedT (P : Program) (t : TypeId) : Bool := match P.underlying t with
  | some (.struct fs) => fs.all fun (f : Field) => (P.info? f.type).isSome
  | _ => true
theorem build_ok {t : TypeId} {sh : Sh} {sz : Nat} {z : List AV} {pl : Nat → Option (Nat × Nat)} {ps : Array (Nat × Operand)} {qs : List (Nat × Nat × AO)} {env : AEnv} {a : Act}
    (hR : Rep E A w) (he : EnvR E env a) (hs : shOf P t = some (sh, sz)) (hsh : sh ≠ .sc) (hz : zeroOf P t = some z) (hpl : placesOf P t = some pl)
    (hall : sizedT P t = true)
    (hq : trParts pl ps.toList = some qs) (h : abuild sh z qs env A K) :
    ResV E A w K ((do pure (Next.value (← Instr.build t (ps.map fun (i, x) => (i, a.eval x)))) : Sem Next).run P w) := by
  obtain ⟨zv, hzr, hzv⟩ := zeroOf_ok (w := w) (E := E) hz
  unfold abuild at h
  split at h
  · rename_i l hl
    split at h
    · rename_i v hv
      obtain ⟨cells', hfill, hvr⟩ := foldP_ok he (place := pl) ps.toList qs z l zv.cells hq hzv hl
      have hShV : ShV sh cells'.toList (.agg cells') := by
        cases sh with
        | sc => exact absurd rfl hsh
        | ag => simp [ShV]
        | ia k n => simp [ShV]
      have hrun : (Instr.build t (ps.map fun (i, x) => (i, a.eval x))).run P w = .ok (.agg cells') w := by
        unfold placesOf at hpl
        unfold Instr.build
        simp only [Sem.run_bind, hzr, Result.andThen_ok]
        cases hu : P.underlying t with
        | none => rw [hu] at hpl; cases hpl
        | some d =>
          unfold sizedT at hall
          rw [hu] at hpl hall
          rw [run_underlying hu w]
          cases d <;> simp only at hpl <;> try (cases hpl; done)
          case array n e =>
            cases hi : P.info? e with
            | none => rw [hi] at hpl; cases hpl
            | some j =>
              rw [hi] at hpl
              injection hpl with hpl; subst hpl
              have hsz : (Go.sizeOf e).run P w = .ok j.size w := by simp [Go.sizeOf, typeInfo, hi]
              simp only [Result.andThen_ok, Sem.run_bind, hsz, Array.toList_map]
              rw [hfill]
              rfl
          case struct fs =>
            injection hpl with hpl; subst hpl
            have hall' : ∀ f ∈ fs, (P.info? f.type).isSome = true := fun f hf => Array.all_eq_true_iff_forall_mem.1 hall f hf
            have hmap := allSized (P := P) (w := w) (fs := fs) hall'
            simp only [Result.andThen_ok, Sem.run_bind, hmap, Array.toList_map]
            have : (fun (i : Nat) => (fs.map fun (f : Field) => (f.offset, P.cellsOf f.type))[i]?) = (fun (i : Nat) => match fs[i]? with
              | some f => (P.info? f.type).map fun j => (f.offset, j.size)
              | none => none) := by
              funext i
              rw [Array.getElem?_map]
              cases hfi : fs[i]? with
              | none => rfl
              | some f =>
                have hmem : f ∈ fs := Array.mem_of_getElem? hfi
                have hs := hall' f hmem
                obtain ⟨i', hi'⟩ := Option.isSome_iff_exists.1 hs
                simp [Program.cellsOf, hi']
            rw [this, hfill]
            rfl
      simp only [Sem.run_bind, hrun, Result.andThen_ok, Sem.run_pure]
      exact Res.val hR h (shp_ok hvr hv hShV)
    · exact h.elim
  · exact h.elim

/-! ### parts of values, addresses of fields -/
def afield (off sz : Nat) (sh : Sh) (x : AV) (A : Heap) (K : AV → Heap → Prop) : Prop :=
  match x with
  | .agg l => match getC l off sz sh with
    | some v => K v A
    | none => False
  | _ => False
/-- A field's offset, shape and number of cells. -/
def fieldOf (P : Program) (t : TypeId) (i : Nat) : Option (Nat × Sh × Nat) :=
  match P.underlying t with
  | some (.struct fs) => match fs[i]? with
    | some f => match shOf P f.type with
      | some (sh, sz) => if 0 < sz then some (f.offset, sh, sz) else none
      | none => none
    | none => none
  | _ => none
theorem run_part {t : TypeId} {sh : Sh} {sz : Nat} (hs : shOf P t = some (sh, sz)) {cs : List Value} {off : Nat} (hle : off + sz ≤ cs.length) :
    ∃ c, (part t cs.toArray off).run P w = .ok c w ∧ ShV sh ((cs.drop off).take sz) c := by
  obtain ⟨ha, hsz, h1⟩ := shOf_run (w := w) hs
  have hext : (cs.toArray.extract off (off + sz)) = ((cs.drop off).take sz).toArray := by
    simp [List.extract_toArray, List.extract_eq_take_drop]
  cases sh with
  | sc =>
    have := h1 rfl
    subst this
    refine ⟨cs[off]'(by omega), ?_, ?_⟩
    · simp only [part, Sem.run_bind, ha, Result.andThen_ok, Bool.false_eq_true, if_false]
      simp [List.getElem?_eq_getElem (show off < cs.length by omega)]
    · simp only [ShV]
      rw [List.drop_eq_getElem_cons (by omega)]; rfl
  | ag => exact ⟨_, by simp only [part, Sem.run_bind, ha, hsz, Result.andThen_ok, if_true, Sem.run_pure, hext], rfl⟩
  | ia k n => exact ⟨_, by simp only [part, Sem.run_bind, ha, hsz, Result.andThen_ok, if_true, Sem.run_pure, hext], rfl⟩
theorem field_ok {t : TypeId} {i off sz : Nat} {sh : Sh} {x : AV} {c : Value} (hR : Rep E A w) (hf : fieldOf P t i = some (off, sh, sz)) (hx : TV E x c) (h : afield off sz sh x A K) :
    ResV E A w K ((do pure (Next.value (← Instr.field t c i)) : Sem Next).run P w) := by
  unfold fieldOf at hf
  split at hf
  · rename_i fs hu
    split at hf
    · rename_i f hfi
      split at hf
      · rename_i sh' sz' hs
        split at hf
        · rename_i hpos
          injection hf with hf; injection hf with e1 e2; injection e2 with e2 e3; subst e1; subst e2; subst e3
          unfold afield at h
          split at h
          · rename_i l
            obtain ⟨xs, hv, rfl⟩ := TV_agg.1 hx
            split at h
            · rename_i v hget
              obtain ⟨d, hrun, hd⟩ := run_part (w := w) hs (getC_len hv hget)
              simp only [Instr.field, Sem.run_bind, run_underlying hu w, Result.andThen_ok, hfi, asAgg, Sem.run_pure, hrun]
              exact Res.val hR h (getC_ok hv hget hd)
            · exact h.elim
          · exact h.elim
        · cases hf
      · cases hf
    · cases hf
  · cases hf

def afadr (off sz : Nat) (sh : Sh) (x : AV) (A : Heap) (K : AV → Heap → Prop) : Prop :=
  match x with
  | .ptr g o => K (.ptr g (o + off)) A
  | .pel g i o => K (.pel g i (o + off)) A
  | .pval v => match getC (comps v) off sz sh with
    | some v' => K (.pval v') A
    | none => False
  | _ => False
theorem fadr_ok {t : TypeId} {i off sz : Nat} {sh : Sh} {x : AV} {c : Value} (hR : Rep E A w) (hf : fieldOf P t i = some (off, sh, sz)) (hx : TV E x c) (h : afadr off sz sh x A K) :
    ResV E A w K ((do pure (Next.value (← Instr.fieldAt t c i)) : Sem Next).run P w) := by
  unfold fieldOf at hf
  split at hf
  · rename_i fs hu
    split at hf
    · rename_i f hfi
      split at hf
      · rename_i sh' sz' hs
        split at hf
        · rename_i hpos
          injection hf with hf; injection hf with e1 e2; injection e2 with e2 e3; subst e1; subst e2; subst e3
          have hsz := (shOf_run (w := w) hs).2.1
          have key : ∀ b o, (do pure (Next.value (← Instr.fieldAt t (.pointer (some (pA b o))) i)) : Sem Next).run P w = .ok (.value (.pointer (some (pA b (o + f.offset))))) w := by
            intro b o
            have h0 : ¬ sz' = 0 := by omega
            simp only [Instr.fieldAt, Sem.run_bind, run_underlying hu w, Result.andThen_ok, hfi, Instr.sureAddr, Sem.run_pure, fieldPlace, hsz, h0, if_false, pA_add]
          unfold afadr at h
          split at h
          · obtain ⟨hg, b, o', ha, rfl⟩ := TV_ptr.1 hx
            rw [key]
            exact Res.val hR h (TV_ptr.2 ⟨hg, b, o', ha, by rw [Nat.add_assoc]⟩)
          · obtain ⟨hg, b, o', ha, rfl⟩ := TV_pel.1 hx
            rw [key]
            exact Res.val hR h (TV_pel.2 ⟨hg, b, o', ha, by rw [Nat.add_assoc]⟩)
          · obtain ⟨b, o', xs, rfl, hl, hcell, hv⟩ := TV_pval.1 hx
            split at h
            · rename_i v' hget
              rw [key]
              have hlen := getC_len (VR_comps hv) hget
              have hvr := getC_VR (VR_comps hv) hget
              have hvv := comps_VR hvr
              have hl' := VR_len _ _ hvv
              have hsz' : v'.size = sz' := by rw [← hl']; simp; omega
              refine Res.val hR h (TV_pval.2 ⟨b, o' + f.offset, _, rfl, hl', fun j hj => ?_, hvv⟩)
              rw [List.getElem?_take, if_pos (by omega), List.getElem?_drop, Nat.add_assoc]
              exact hcell _ (by omega)
            · exact h.elim
          · exact h.elim
        · cases hf
      · cases hf
    · cases hf
  · cases hf
end
end AVL

/- Slices: what they lead to, and append. -/
namespace AVL
open Go
set_option linter.unusedSimpArgs false
set_option linter.unusedVariables false

/-- Elements of so many cells each, one behind the other. -/
def VRe (E : Emb) (sz : Nat) : List AV → List Value → Prop
  | [], cs => cs = []
  | v :: r, cs => ∃ c1 c2, cs = c1 ++ c2 ∧ c1.length = sz ∧ VR E v c1 ∧ VRe E sz r c2
theorem VRe_len {E : Emb} {sz : Nat} : ∀ {l : List AV} {cs : List Value}, VRe E sz l cs → cs.length = l.length * sz
  | [], cs, h => by simp [VRe] at h; simp [h]
  | v :: r, cs, h => by
    obtain ⟨c1, c2, rfl, h1, _, h2⟩ := h
    simp [h1, VRe_len h2, Nat.succ_mul, Nat.add_comm]
theorem VRe_append {E : Emb} {sz : Nat} : ∀ {l m : List AV} {cs ds : List Value}, VRe E sz l cs → VRe E sz m ds → VRe E sz (l ++ m) (cs ++ ds)
  | [], m, cs, ds, h, k => by simp [VRe] at h; subst h; simpa using k
  | v :: r, m, cs, ds, h, k => by
    obtain ⟨c1, c2, rfl, h1, hv, h2⟩ := h
    exact ⟨c1, c2 ++ ds, by simp, h1, hv, VRe_append h2 k⟩
theorem VRe_take {E : Emb} {sz : Nat} : ∀ {l : List AV} {cs : List Value} (n : Nat), VRe E sz l cs → VRe E sz (l.take n) (cs.take (n * sz))
  | [], cs, n, h => by simp [VRe] at h; subst h; simp [VRe]
  | v :: r, cs, 0, h => by simp [VRe]
  | v :: r, cs, n + 1, h => by
    obtain ⟨c1, c2, rfl, h1, hv, h2⟩ := h
    refine ⟨c1, c2.take (n * sz), ?_, h1, hv, VRe_take n h2⟩
    rw [Nat.succ_mul, Nat.add_comm, ← h1, List.take_length_add_append]
theorem VRe_drop {E : Emb} {sz : Nat} : ∀ {l : List AV} {cs : List Value} (n : Nat), VRe E sz l cs → VRe E sz (l.drop n) (cs.drop (n * sz))
  | [], cs, n, h => by simp [VRe] at h; subst h; simp [VRe]
  | v :: r, cs, 0, h => by simpa using h
  | v :: r, cs, n + 1, h => by
    obtain ⟨c1, c2, rfl, h1, hv, h2⟩ := h
    rw [List.drop_succ_cons, Nat.succ_mul, Nat.add_comm (n * sz), ← h1, List.drop_length_add_append, h1]
    exact VRe_drop n h2
theorem VRe_mono {E E' : Emb} (hE : E.Le E') {sz : Nat} : ∀ {l : List AV} {cs : List Value}, VRe E sz l cs → VRe E' sz l cs
  | [], cs, h => h
  | v :: r, cs, h => by
    obtain ⟨c1, c2, e, h1, hv, h2⟩ := h
    exact ⟨c1, c2, e, h1, VR_mono hE v c1 hv, VRe_mono hE h2⟩
theorem VRe_ints {E : Emb} {k : IntKind} : ∀ (l : List Int), VRe E 1 (l.map (AV.int k)) (l.map (Value.int k))
  | [] => rfl
  | n :: r => ⟨[.int k n], r.map (Value.int k), rfl, rfl, by simp [VR], VRe_ints r⟩
theorem VRe_get {E : Emb} {sz : Nat} : ∀ {l : List AV} {cs : List Value} {j : Nat} {v : AV}, VRe E sz l cs → l[j]? = some v →
    ∃ c : List Value, c.length = sz ∧ (∀ i, i < sz → cs[j * sz + i]? = c[i]?) ∧ VR E v c
  | [], cs, j, v, h, hj => by simp at hj
  | u :: r, cs, 0, v, h, hj => by
    obtain ⟨c1, c2, rfl, h1, hv, h2⟩ := h
    simp at hj; subst hj
    exact ⟨c1, h1, fun i hi => by rw [Nat.zero_mul, Nat.zero_add, List.getElem?_append_left (by omega)], hv⟩
  | u :: r, cs, j + 1, v, h, hj => by
    obtain ⟨c1, c2, rfl, h1, hv, h2⟩ := h
    simp at hj
    obtain ⟨c, hc, hcell, hv'⟩ := VRe_get h2 hj
    refine ⟨c, hc, fun i hi => ?_, hv'⟩
    rw [← hcell i hi, List.getElem?_append_right (by rw [h1, Nat.succ_mul]; omega), h1, Nat.succ_mul]
    congr 1; omega
theorem VRe_of {E : Emb} {sz : Nat} : ∀ {l : List AV} {cs : List Value}, cs.length = l.length * sz →
    (∀ j v, l[j]? = some v → ∃ c : List Value, c.length = sz ∧ (∀ i, i < sz → cs[j * sz + i]? = c[i]?) ∧ VR E v c) → VRe E sz l cs
  | [], cs, hl, h => by simp at hl; exact hl
  | v :: r, cs, hl, h => by
    obtain ⟨c, hc, hcell, hv⟩ := h 0 v rfl
    simp only [List.length_cons, Nat.succ_mul] at hl
    have e : cs.take sz = c := by
      apply List.ext_getElem?
      intro i
      rw [List.getElem?_take]
      split
      · rename_i hi
        have := hcell i hi
        simpa using this
      · rw [List.getElem?_eq_none (by omega)]
    refine ⟨c, cs.drop sz, by rw [← e, List.take_append_drop], hc, hv, VRe_of (by simp; omega) (fun j v' hj => ?_)⟩
    obtain ⟨c', hc', hcell', hv'⟩ := h (j + 1) v' (by simpa using hj)
    refine ⟨c', hc', fun i hi => ?_, hv'⟩
    rw [List.getElem?_drop, ← hcell' i hi, Nat.succ_mul]
    congr 1; omega

/-- The row of a name, as its cells. -/
theorem row_cells {E : Emb} {w : World} {g : Nat} {t : TypeId} {sz : Nat} {l : List AV} (h : RepC E w g (.row t sz l)) {b off : Nat} (ha : (E.loc g).addr = some (b, off)) :
    (E.loc g).sz = sz ∧ l.length ≤ (E.loc g).room ∧ E.F b = none ∧ ∃ C, Blk w b C t ∧ off + (E.loc g).room * sz ≤ C.size ∧ VRe E sz l ((C.toList.drop off).take (l.length * sz)) := by
  obtain ⟨hs, hr, ⟨hn, _⟩ | ⟨b', off', C, ha', hF, hb, hC, hcs⟩⟩ := h
  · rw [hn] at ha; cases ha
  rw [ha] at ha'; injection ha' with ha'; injection ha' with e1 e2; subst e1; subst e2
  refine ⟨hs, hr, hF, C, hb, hC, ?_⟩
  have hle : l.length * sz ≤ (E.loc g).room * sz := Nat.mul_le_mul_right _ hr
  refine VRe_of (by simp; omega) (fun j v hj => ?_)
  obtain ⟨c, hc, hcell, hv⟩ := hcs j v hj
  refine ⟨c, hc, fun i hi => ?_, hv⟩
  have hjl := (List.getElem?_eq_some_iff.1 hj).1
  have : (j + 1) * sz ≤ l.length * sz := Nat.mul_le_mul_right _ hjl
  rw [Nat.succ_mul] at this
  rw [List.getElem?_take, if_pos (by omega), List.getElem?_drop, ← hcell i hi, Nat.add_assoc]
  simp
theorem row_of {E : Emb} {w : World} {g : Nat} {t : TypeId} {sz : Nat} {l : List AV} {b off : Nat} {C : Array Value} (hs : (E.loc g).sz = sz) (hr : l.length ≤ (E.loc g).room)
    (ha : (E.loc g).addr = some (b, off)) (hF : E.F b = none) (hb : Blk w b C t) (hC : off + (E.loc g).room * sz ≤ C.size)
    {cs : List Value} (hv : VRe E sz l cs) (hcs : ∀ i, i < cs.length → C[off + i]? = cs[i]?) : RepC E w g (.row t sz l) := by
  refine ⟨hs, hr, .inr ⟨b, off, C, ha, hF, hb, hC, fun j v hj => ?_⟩⟩
  obtain ⟨c, hc, hcell, hv'⟩ := VRe_get hv hj
  refine ⟨c, hc, fun i hi => ?_, hv'⟩
  have hjl := (List.getElem?_eq_some_iff.1 hj).1
  have : (j + 1) * sz ≤ l.length * sz := Nat.mul_le_mul_right _ hjl
  rw [Nat.succ_mul] at this
  rw [Nat.add_assoc, hcs _ (by rw [VRe_len hv]; omega), hcell i hi]
theorem irow_row {E : Emb} {w : World} {g : Nat} {t : TypeId} {k : IntKind} {l : List Int} : RepC E w g (.irow t k l) ↔ RepC E w g (.row t 1 (l.map (AV.int k))) := by
  simp only [RepC, List.length_map, Nat.mul_one]
  refine and_congr_right fun _ => and_congr_right fun _ => or_congr Iff.rfl ?_
  constructor
  · rintro ⟨b, off, C, ha, hF, hb, hC, hcs⟩
    refine ⟨b, off, C, ha, hF, hb, hC, fun j v hj => ?_⟩
    rw [List.getElem?_map] at hj
    by_cases hjl : j < l.length
    · rw [List.getElem?_eq_getElem hjl] at hj
      simp at hj; subst hj
      refine ⟨[.int k l[j]], rfl, fun i hi => ?_, by simp [VR]⟩
      have := hcs j hjl
      have hi0 : i = 0 := by omega
      subst hi0
      simpa [List.getD_eq_getElem?_getD, hjl] using this
    · rw [List.getElem?_eq_none (by omega)] at hj; cases hj
  · rintro ⟨b, off, C, ha, hF, hb, hC, hcs⟩
    refine ⟨b, off, C, ha, hF, hb, hC, fun j hjl => ?_⟩
    obtain ⟨c, hc, hcell, hv⟩ := hcs j (.int k l[j]) (by simp [hjl])
    simp only [VR] at hv; subst hv
    have := hcell 0 (by omega)
    simpa [List.getD_eq_getElem?_getD, hjl] using this
theorem Rep.irow {E : Emb} {A : Heap} {w : World} {g : Nat} {t : TypeId} {k : IntKind} {l : List Int} (h : Rep E (A.set g (.row t 1 (l.map (AV.int k)))) w) : Rep E (A.set g (.irow t k l)) w := by
  refine ⟨h.frm, fun g' c hg => ?_, fun g' c hg => ?_, fun g1 g2 c1 c2 h1 h2 hne => ?_, fun g' c hg => ?_, h.lon, fun b o hb => ⟨(h.hid b o hb).1, (h.hid b o hb).2.1, fun g' c hg => ?_⟩⟩
  · simp only [Heap.set] at hg
    split at hg
    · rename_i e; subst e; exact h.lt g' _ (Heap.set_same _ _ _)
    · rename_i e; exact h.lt g' c (by rw [Heap.set_ne _ _ e]; exact hg)
  · simp only [Heap.set] at hg
    split at hg
    · rename_i e; subst e; injection hg with hg; subst hg; exact irow_row.2 (h.cont g' _ (Heap.set_same _ _ _))
    · rename_i e; exact h.cont g' c (by rw [Heap.set_ne _ _ e]; exact hg)
  · have key : ∀ g' c, (A.set g (.irow t k l)) g' = some c → ∃ y, (A.set g (.row t 1 (l.map (AV.int k)))) g' = some y := fun g' c hx => by
      by_cases e : g' = g
      · subst e; exact ⟨_, Heap.set_same _ _ _⟩
      · rw [Heap.set_ne _ _ e] at hx ⊢; exact ⟨_, hx⟩
    obtain ⟨y1, k1⟩ := key _ _ h1
    obtain ⟨y2, k2⟩ := key _ _ h2
    exact h.sep _ _ _ _ k1 k2 hne
  · by_cases e : g' = g
    · subst e; exact h.low g' _ (Heap.set_same _ _ _)
    · rw [Heap.set_ne _ _ e] at hg; exact h.low g' c (by rw [Heap.set_ne _ _ e]; exact hg)
  · by_cases e : g' = g
    · subst e; exact (h.hid b o hb).2.2 g' _ (Heap.set_same _ _ _)
    · rw [Heap.set_ne _ _ e] at hg; exact (h.hid b o hb).2.2 g' c (by rw [Heap.set_ne _ _ e]; exact hg)

theorem SR_get {E : Emb} {b sz : Nat} : ∀ {l : List AV} {off : Nat}, SR E b sz off l → ∃ cs, VRe E sz l cs ∧ ∀ i, i < cs.length → E.cell b (off + i) = cs[i]?
  | [], off, h => ⟨[], rfl, fun i hi => by simp at hi⟩
  | v :: r, off, h => by
    simp only [SR] at h
    obtain ⟨⟨cs, hl, hc, hv⟩, hr⟩ := h
    obtain ⟨ds, hd, hcell⟩ := SR_get hr
    refine ⟨cs ++ ds, ⟨cs, ds, rfl, hl, hv, hd⟩, fun i hi => ?_⟩
    by_cases h1 : i < sz
    · rw [List.getElem?_append_left (by omega)]; exact hc i h1
    · rw [List.getElem?_append_right (by omega), ← hcell (i - cs.length) (by simp at hi; omega)]
      congr 1; omega

def bytesI (s : ByteArray) : List Int := s.data.toList.map fun b => (b.toNat : Int)

/-- The elements that a slice or a string leads to. -/
def srcG (sz : Nat) (s : AV) (A : Heap) (Q : List AV → Prop) : Prop :=
  match s with
  | .nilS => Q []
  | .isl k l => sz = 1 ∧ Q (l.map (AV.int k))
  | .dsl s l => s = sz ∧ Q l
  | .str x => sz = 1 ∧ Q ((bytesI x).map (AV.int .u8))
  | .own g i n => match A g with
    | some (.irow _ k l) => sz = 1 ∧ i + n ≤ l.length ∧ Q (((l.drop i).take n).map (AV.int k))
    | some (.row _ s l) => s = sz ∧ i + n ≤ l.length ∧ Q ((l.drop i).take n)
    | _ => False
  | .asl g o m i n => match A g with
    | some (.var _ l) => match getI l o m with
      | some (k, xs) => sz = 1 ∧ xs.length = m ∧ Q (((xs.drop i).take n).map (AV.int k))
      | none => False
    | _ => False
  | _ => False
/-- The whole numbers that a slice or a string leads to. -/
def srcI (k : IntKind) (s : AV) (A : Heap) (Q : List Int → Prop) : Prop :=
  match s with
  | .nilS => Q []
  | .isl k' l => k' = k ∧ Q l
  | .str x => k = .u8 ∧ Q (bytesI x)
  | .own g i n => match A g with
    | some (.irow _ k' l) => k' = k ∧ i + n ≤ l.length ∧ Q ((l.drop i).take n)
    | _ => False
  | .asl g o m i n => match A g with
    | some (.var _ l) => match getI l o m with
      | some (k', xs) => k' = k ∧ xs.length = m ∧ Q ((xs.drop i).take n)
      | none => False
    | _ => False
  | _ => False
theorem srcI_G {k : IntKind} {s : AV} {A : Heap} {Q : List Int → Prop} (h : srcI k s A Q) : srcG 1 s A fun vs => ∃ ys, vs = ys.map (AV.int k) ∧ Q ys := by
  unfold srcI at h
  unfold srcG
  split at h
  · exact ⟨[], rfl, h⟩
  · obtain ⟨rfl, h⟩ := h; exact ⟨rfl, _, rfl, h⟩
  · obtain ⟨rfl, h⟩ := h; exact ⟨rfl, _, rfl, h⟩
  · rename_i g i n
    cases hA : A g with
    | none => rw [hA] at h; exact h.elim
    | some c =>
      rw [hA] at h
      cases c with
      | irow t k' l => obtain ⟨rfl, h1, h⟩ := h; simp only [hA]; exact ⟨trivial, h1, _, rfl, h⟩
      | var _ _ => exact h.elim
      | row _ _ _ => exact h.elim
      | mp _ _ => exact h.elim
      | srow _ _ _ => exact h.elim
      | lp _ _ _ _ _ => exact h.elim
  · rename_i g o m i n
    cases hA : A g with
    | none => rw [hA] at h; exact h.elim
    | some c =>
      rw [hA] at h
      cases c with
      | irow t k' l => exact h.elim
      | var _ l =>
        simp only [hA] at h ⊢
        cases hg : getI l o m with
        | none => rw [hg] at h; exact h.elim
        | some kx =>
          obtain ⟨k', xs⟩ := kx
          rw [hg] at h
          obtain ⟨rfl, h1, h⟩ := h
          exact ⟨trivial, h1, _, rfl, h⟩
      | row _ _ _ => exact h.elim
      | mp _ _ => exact h.elim
      | srow _ _ _ => exact h.elim
      | lp _ _ _ _ _ => exact h.elim
  · exact h.elim

section
variable {P : Program} {w : World} {E : Emb} {A : Heap} {K : AV → Heap → Prop}

/-- How the machine reads what a slice leads to. -/
structure Reads (P : Program) (w : World) (E : Emb) (sz : Nat) (c : Value) (vs : List AV) (cs : List Value) : Prop where
  len : (Builtin.lenOf c).run P w = .ok vs.length w
  cells : VRe E sz vs cs
  first : ∀ w' n, w'.heap = w.heap → n ≤ vs.length → (Builtin.firstCells sz n c).run P w' = .ok (cs.take (n * sz)).toArray w'

theorem cell_heap {w w' : World} (h : w'.heap = w.heap) (a : Addr) : w'.cell? a = w.cell? a := by simp [World.cell?, h]

theorem reads_at {sz : Nat} {vs : List AV} {cs : List Value} {a : Option Addr} {cap : Nat} (hv : VRe E sz vs cs)
    (h : 0 < vs.length → ∃ b off, a = some (pA b off) ∧ ∀ i v, cs[i]? = some v → w.cell? (pA b (off + i)) = some v) : Reads P w E sz (.slice a vs.length cap) vs cs := by
  refine ⟨rfl, hv, fun w' n hw hn => ?_⟩
  have hlen := VRe_len hv
  cases a with
  | none =>
    have : vs.length = 0 := by
      rcases Nat.eq_zero_or_pos vs.length with h0 | h0
      · exact h0
      · obtain ⟨_, _, e, _⟩ := h h0; cases e
    have : cs = [] := List.eq_nil_of_length_eq_zero (by rw [hlen, this]; simp)
    subst this
    simp [Builtin.firstCells]
  | some ad =>
    have hle : n * sz ≤ cs.length := by rw [hlen]; exact Nat.mul_le_mul_right _ hn
    have hl : (cs.take (n * sz)).length = n * sz := by simp; omega
    have : (Builtin.firstCells sz n (.slice (some ad) vs.length cap)).run P w' = (loadCells ad (n * sz)).run P w' := rfl
    rw [this]
    have := run_loadCells_list (P := P) w' ad (cs.take (n * sz)) (fun j v hj => by
      rw [List.getElem?_take] at hj
      split at hj
      · have hpos : 0 < vs.length := by
          rcases Nat.eq_zero_or_pos vs.length with h0 | h0
          · rw [h0] at hlen; have := (List.getElem?_eq_some_iff.1 hj).1; omega
          · exact h0
        obtain ⟨b, off, e, hc⟩ := h hpos
        injection e with e; subst e
        rw [pA_add, cell_heap hw]; exact hc j v hj
      · cases hj)
    rw [hl] at this
    exact this

theorem srcG_ok {sz : Nat} {s : AV} {c : Value} {Q : List AV → Prop} (hR : Rep E A w) (hs : TV E s c) (h : srcG sz s A Q) : ∃ vs cs, Q vs ∧ Reads P w E sz c vs cs := by
  unfold srcG at h
  split at h
  · simp only [TV_nilS] at hs; subst hs
    exact ⟨[], [], h, reads_at (vs := []) (cs := []) rfl (fun h => by simp at h)⟩
  · rename_i k l
    obtain ⟨rfl, h⟩ := h
    obtain ⟨a, cap, rfl, hcap, hp⟩ := TV_isl.1 hs
    refine ⟨_, l.map (Value.int k), h, ?_⟩
    have := reads_at (P := P) (w := w) (a := a) (cap := cap) (VRe_ints (E := E) (k := k) l) (fun hpos => by
      obtain ⟨b, off, e, hc⟩ := hp (by simpa using hpos)
      refine ⟨b, off, e, fun i v hi => ?_⟩
      rw [List.getElem?_map] at hi
      by_cases hil : i < l.length
      · rw [List.getElem?_eq_getElem hil] at hi
        simp at hi; subst hi
        have := frm_cell hR (hc i hil)
        simpa [List.getD_eq_getElem?_getD, hil] using this
      · rw [List.getElem?_eq_none (by omega)] at hi; cases hi)
    simpa using this
  · rename_i s' l
    obtain ⟨rfl, h⟩ := h
    obtain ⟨a, cap, rfl, hcap, hp⟩ := TV_dsl.1 hs
    by_cases hpos : 0 < l.length
    · obtain ⟨b, off, rfl, hsr⟩ := hp hpos
      obtain ⟨cs, hv, hc⟩ := SR_get hsr
      refine ⟨_, _, h, reads_at hv (fun _ => ⟨b, off, rfl, fun i v hi => ?_⟩)⟩
      have := (List.getElem?_eq_some_iff.1 hi).1
      exact frm_cell hR (by rw [hc i this]; exact hi)
    · have hl : l = [] := List.eq_nil_of_length_eq_zero (by omega)
      subst hl
      exact ⟨[], [], h, reads_at (vs := []) (cs := []) rfl (fun h => by simp at h)⟩
  · rename_i x
    obtain ⟨rfl, h⟩ := h
    simp only [TV_str] at hs; subst hs
    refine ⟨_, (bytesI x).map (Value.int .u8), h, ⟨?_, VRe_ints _, fun w' n hw hn => ?_⟩⟩
    · show Result.ok x.size w = _
      congr 1
      simp [bytesI]
    · simp only [Builtin.firstCells, Sem.run_pure]
      congr 1
      apply Array.toList_inj.1
      simp [bytesI, ByteArray.data_extract, List.map_take]; rfl
  · rename_i g i n
    obtain ⟨hg, a, cap, rfl, hcap, hroom, hloc⟩ := TV_own.1 hs
    have main : ∀ t sz' l, RepC E w g (.row t sz' l) → i + n ≤ l.length → ∃ cs, Reads P w E sz' (.slice a n cap) ((l.drop i).take n) cs := by
      intro t sz' l hc hin
      have hlen : ((l.drop i).take n).length = n := by simp; omega
      rcases hloc with rfl | ⟨b, off, ha, rfl⟩
      · have hn0 : n = 0 := by omega
        subst hn0
        exact ⟨[], by simpa using reads_at (P := P) (w := w) (E := E) (sz := sz') (vs := []) (cs := []) (a := a) (cap := 0) rfl (fun h => by simp at h)⟩
      · obtain ⟨hsz, hr, hF, C, hb, hC, hv⟩ := row_cells hc ha
        have hv2 := VRe_take n (VRe_drop i hv)
        refine ⟨(List.take (n * sz') (List.drop (i * sz') (List.take (l.length * sz') (List.drop off C.toList)))), ?_⟩
        have := reads_at (P := P) (w := w) (a := some (pA b (off + i * (E.loc g).sz))) (cap := cap) hv2 (fun _ => ⟨b, _, rfl, fun j v hj => ?_⟩)
        · rw [hlen] at this; exact this
        · rw [hsz, hb.cell]
          rw [List.getElem?_take] at hj
          split at hj
          · rw [List.getElem?_drop, List.getElem?_take] at hj
            split at hj
            · rw [List.getElem?_drop] at hj
              rw [← hj]
              simp
              congr 1; omega
            · cases hj
          · cases hj
    split at h
    · rename_i t k l hA
      obtain ⟨rfl, hin, h⟩ := h
      obtain ⟨cs, hr⟩ := main t 1 (l.map (AV.int k)) (irow_row.1 (hR.cont g _ hA)) (by simpa using hin)
      exact ⟨_, cs, h, by simpa [List.map_take, List.map_drop] using hr⟩
    · rename_i t s' l hA
      obtain ⟨rfl, hin, h⟩ := h
      obtain ⟨cs, hr⟩ := main t _ l (hR.cont g _ hA) hin
      exact ⟨_, cs, h, hr⟩
    · exact h.elim
  · rename_i g o m i n
    obtain ⟨hg, him, a, rfl, hloc⟩ := TV_asl.1 hs
    split at h
    · rename_i t l hA
      split at h
      · rename_i k xs hget
        obtain ⟨rfl, hxl, h⟩ := h
        obtain ⟨b', cs, ha', hF, hb, hv⟩ := hR.cont g _ hA
        obtain ⟨hle, hcs⟩ := getI_ok hv hget
        have hlen : ((xs.drop i).take n).length = n := by simp; omega
        refine ⟨_, ((xs.drop i).take n).map (Value.int k), h, ?_⟩
        have := reads_at (P := P) (w := w) (a := a) (cap := m - i) (VRe_ints (E := E) (k := k) ((xs.drop i).take n)) (fun hpos => ?_)
        · rw [List.length_map, hlen] at this; exact this
        · rw [List.length_map, hlen] at hpos
          rcases hloc with rfl | ⟨b, off, ha, rfl⟩
          · omega
          rw [ha] at ha'; injection ha' with ha'; injection ha' with e1 e2; subst e1; subst e2
          refine ⟨b, _, rfl, fun j v hj => ?_⟩
          rw [cell_at hb]
          rw [List.getElem?_map, List.getElem?_take] at hj
          split at hj
          · rename_i hjn
            have := hcs (i + j) (by omega)
            rw [List.getElem?_drop, List.getElem?_eq_getElem (by omega)] at hj
            simp at hj; subst hj
            rw [← Nat.add_assoc] at this
            simpa [List.getD_eq_getElem?_getD, show i + j < xs.length by omega] using this
          · cases hj
      · exact h.elim
    · exact h.elim
  · exact h.elim
end
end AVL

/- append, make, slice literals, parts of slices, lengths, addresses of elements. -/
namespace AVL
open Go
set_option linter.unusedSimpArgs false
set_option linter.unusedVariables false

def srcT (P : Program) (t : TypeId) : Bool := match P.underlying t with | some .string | some (.slice _) => true | _ => false

section
variable {P : Program} {w : World} {E : Emb} {A : Heap} {K : AV → Heap → Prop}

theorem srcT_or {t : TypeId} (h : srcT P t = true) : P.underlying t = some .string ∨ ∃ e, P.underlying t = some (.slice e) := by
  unfold srcT at h
  split at h
  · rename_i h'; exact .inl h'
  · rename_i e h'; exact .inr ⟨_, h'⟩
  · cases h

theorem app_room {t tx ty e : TypeId} {i : TypeInfo} (ht : P.underlying t = some (.slice e)) (hx : srcT P tx = true) (hi : P.info? e = some i)
    {b off sLen sCap : Nat} {C : Array Value} (hb : Blk w b C e) {c : Value} {vs : List AV} {cs : List Value} (hr : Reads P w E i.size c vs cs)
    (hroom : sLen + vs.length ≤ sCap) (hfit : off + sCap * i.size ≤ C.size) (h1 : ∀ x ∈ cs, x.oneCell' = true) :
    (Builtin.append_ #[t, tx] ty #[.slice (some (pA b off)) sLen sCap, c]).run P w =
      .ok (.slice (some (pA b off)) (sLen + vs.length) sCap) (w.setRow b (C.toList.take (off + sLen * i.size) ++ cs ++ C.toList.drop (off + sLen * i.size + cs.length)).toArray) := by
  have hl := VRe_len hr.cells
  have hf := hr.first w vs.length rfl (Nat.le_refl _)
  rw [← hl, List.take_length] at hf
  have hm : (sLen + vs.length) * i.size ≤ sCap * i.size := Nat.mul_le_mul_right _ hroom
  rw [Nat.add_mul] at hm
  have hst := hb.stores P (off + sLen * i.size) cs (by rw [hl]; omega) h1
  have hlen := hr.len
  rcases srcT_or hx with hu | ⟨e', hu⟩ <;>
    simp [Builtin.append_, run_underlying ht, run_underlying hu, Go.sizeOf, typeInfo, hi, hlen, hroom, hf, pA_add] <;>
    (unfold pA; simp [hst])

theorem app_grow {t tx ty e : TypeId} {i : TypeInfo} {z : Value} (ht : P.underlying t = some (.slice e)) (hx : srcT P tx = true) (hi : P.info? e = some i) (hz : i.zero = some z)
    {base : Option Addr} {sLen sCap : Nat} {olds : List Value} (ho : (Builtin.firstCells i.size sLen (.slice base sLen sCap)).run P w.drew = .ok olds.toArray w.drew)
    {c : Value} {vs : List AV} {cs : List Value} (hr : Reads P w E i.size c vs cs)
    (hg : sCap < sLen + vs.length) (hby : (sLen + vs.length) * i.bytes ≤ 140737488355328) (h63 : sLen + vs.length ≤ 9223372036854775807) :
    (Builtin.append_ #[t, tx] ty #[.slice base sLen sCap, c]).run P w =
      .ok (.slice (some (pA w.heap.size 0)) (sLen + vs.length) (grownCap w (sLen + vs.length) sCap e))
        (w.drew.alloc (.cells (olds.toArray ++ cs.toArray ++ Builtin.zeroCells z.cells (grownCap w (sLen + vs.length) sCap e - (sLen + vs.length))) e)) := by
  have hl := VRe_len hr.cells
  have hf := hr.first w.drew vs.length rfl (Nat.le_refl _)
  rw [← hl, List.take_length] at hf
  have hlen := hr.len
  have hn : ¬ (sLen + vs.length ≤ sCap) := by omega
  have h63' : ¬ (9223372036854775807 < ((sLen : Int) + (vs.length : Int))) := by omega
  have h48 := growslice_fits (bytes := i.bytes) hg hby
  have h48' : ¬ (281474976710656 < Builtin.nextslicecap (sLen + vs.length) sCap * i.bytes) := by omega
  rcases srcT_or hx with hu | ⟨e', hu⟩ <;>
    (simp [Builtin.append_, run_underlying ht, run_underlying hu, Go.sizeOf, typeInfo, zeroValue, hi, hz, hlen, hn, h63', h48', Question.forced, ho, hf, newRow, grownCap, pA]
     congr 2
     apply Array.ext'
     simp [List.append_assoc])

/-- What is appended: a row's or a text's elements, or noughts. -/
structure AppSrc (P : Program) (w : World) (E : Emb) (t tx e : TypeId) (i : TypeInfo) (z : Value) (c : Value) (vs : List AV) (cs : List Value) : Prop where
  cells : VRe E i.size vs cs
  zero : vs = [] → ∀ (a : Option Addr) (ty : TypeId), (Builtin.append_ #[t, tx] ty #[.slice a 0 0, c]).run P w = .ok (.slice a 0 0) w
  room : ∀ {ty : TypeId} {b off sLen sCap : Nat} {C : Array Value}, Blk w b C e → sLen + vs.length ≤ sCap → off + sCap * i.size ≤ C.size → (∀ x ∈ cs, x.oneCell' = true) →
    (Builtin.append_ #[t, tx] ty #[.slice (some (pA b off)) sLen sCap, c]).run P w =
      .ok (.slice (some (pA b off)) (sLen + vs.length) sCap) (w.setRow b (C.toList.take (off + sLen * i.size) ++ cs ++ C.toList.drop (off + sLen * i.size + cs.length)).toArray)
  grow : ∀ {ty : TypeId} {base : Option Addr} {sLen sCap : Nat} {olds : List Value}, (Builtin.firstCells i.size sLen (.slice base sLen sCap)).run P w.drew = .ok olds.toArray w.drew →
    sLen ≤ sCap → sCap < sLen + vs.length → (sLen + vs.length) * i.bytes ≤ 140737488355328 → sLen + vs.length ≤ 9223372036854775807 →
    (Builtin.append_ #[t, tx] ty #[.slice base sLen sCap, c]).run P w =
      .ok (.slice (some (pA w.heap.size 0)) (sLen + vs.length) (grownCap w (sLen + vs.length) sCap e))
        (w.drew.alloc (.cells (olds.toArray ++ cs.toArray ++ Builtin.zeroCells z.cells (grownCap w (sLen + vs.length) sCap e - (sLen + vs.length))) e))
theorem AppSrc.of {t tx e : TypeId} {i : TypeInfo} {z : Value} (ht : P.underlying t = some (.slice e)) (hx : srcT P tx = true) (hi : P.info? e = some i) (hz : i.zero = some z)
    {c : Value} {vs : List AV} {cs : List Value} (hr : Reads P w E i.size c vs cs) : AppSrc P w E t tx e i z c vs cs := by
  refine ⟨hr.cells, fun h0 a ty => ?_, fun hb hroom hfit h1 => app_room ht hx hi hb hr hroom hfit h1, fun ho _ hg hby h63 => app_grow ht hx hi hz ho hr hg hby h63⟩
  subst h0
  have hl := VRe_len hr.cells
  have hcs : cs = [] := List.eq_nil_of_length_eq_zero (by simpa using hl)
  subst hcs
  have hlen := hr.len
  have hf := hr.first w 0 rfl (Nat.le_refl _)
  simp only [List.length_nil] at hlen
  simp only [Nat.zero_mul, List.take_nil] at hf
  rcases srcT_or hx with hu | ⟨e', hu⟩ <;> cases a <;>
    simp [Builtin.append_, run_underlying ht, run_underlying hu, Go.sizeOf, typeInfo, hi, hlen, hf, storeCells]
/-- append; elements of any kind. -/
def aapp (e : TypeId) (sz bytes : Nat) (d s : AV) (A : Heap) (K : AV → Heap → Prop) : Prop :=
  srcG sz s A fun ys => AV.sts ys = true ∧ match d with
    | .nilS => ys.length * bytes ≤ 140737488355328 ∧ ∀ g, A g = none → K (.own g 0 ys.length) (A.set g (.row e sz ys))
    | .own g i n => match A g with
      | some (.row e' sz' l) => e' = e ∧ sz' = sz ∧ i + n ≤ l.length ∧ (n + ys.length) * bytes ≤ 140737488355328 ∧
          ∀ g', A g' = none → K (.own g' 0 (n + ys.length)) ((A.del g).set g' (.row e sz ((l.drop i).take n ++ ys)))
      | _ => False
    | _ => False
/-- append; whole numbers. -/
def aappI (e : TypeId) (k : IntKind) (bytes : Nat) (d s : AV) (A : Heap) (K : AV → Heap → Prop) : Prop :=
  srcI k s A fun ys => match d with
    | .nilS => ys.length * bytes ≤ 140737488355328 ∧ ∀ g, A g = none → K (.own g 0 ys.length) (A.set g (.irow e k ys))
    | .own g i n => match A g with
      | some (.irow e' k' l) => e' = e ∧ k' = k ∧ i + n ≤ l.length ∧ (n + ys.length) * bytes ≤ 140737488355328 ∧
          ∀ g', A g' = none → K (.own g' 0 (n + ys.length)) ((A.del g).set g' (.irow e k ((l.drop i).take n ++ ys)))
      | _ => False
    | .asl g o m i n => match A g with
      | some (.var _ l) => match getI l o m with
        | some (k', xs) => k' = k ∧ xs.length = m ∧ i + n = m ∧ 0 < ys.length ∧ (n + ys.length) * bytes ≤ 140737488355328 ∧
            ∀ g', A g' = none → K (.own g' 0 (n + ys.length)) (A.set g' (.irow e k ((xs.drop i).take n ++ ys)))
        | none => False
      | _ => False
    | _ => False

theorem Rep.del {A : Heap} (h : Rep E A w) (g : Nat) : Rep E (A.del g) w := h.sub fun g' c hg => by
  simp only [Heap.del] at hg; split at hg
  · cases hg
  · exact hg

theorem freshF (hR : Rep E A w) : E.F w.heap.size = none := by
  cases hF : E.F w.heap.size with
  | none => rfl
  | some o => exact absurd (Array.getElem?_eq_some_iff.1 (hR.frm _ _ hF)).1 (Nat.lt_irrefl _)

/-- A new row of the call's own, in a block that has just been made. -/
theorem new_row (hR : Rep E A w) {e : TypeId} {sz : Nat} {l : List AV} {cs : List Value} (hv : VRe E sz l cs) {w1 : World} (h1 : w1.heap = w.heap) {C : Array Value} {cap : Nat}
    (hcap : l.length ≤ cap) (hC : cap * sz ≤ C.size) (hcs : ∀ i, i < cs.length → C[i]? = cs[i]?) :
    Rep (E.push ⟨some (w.heap.size, 0), sz, cap⟩) (A.set E.N (.row e sz l)) (w1.alloc (.cells C e)) ∧
    TV (E.push ⟨some (w.heap.size, 0), sz, cap⟩) (.own E.N 0 l.length) (.slice (some (pA w.heap.size 0)) l.length cap) := by
  have hR1 : Rep E A w1 := hR.grow (fun b hb => by rw [h1])
  have hs : w1.heap.size = w.heap.size := by rw [h1]
  constructor
  · refine hR1.alloc _ _ 0 (by rw [hs]) _ ?_
    refine row_of (b := w.heap.size) (off := 0) (C := C) (cs := cs) (by rw [Emb.push_loc]) (by rw [Emb.push_loc]; exact hcap) (by rw [Emb.push_loc]) (show E.F w.heap.size = none from freshF hR) ?_ (by rw [Emb.push_loc]; simpa using hC) (VRe_mono (E.push_le _) hv) (fun i hi => by simpa using hcs i hi)
    refine Blk.of0 ?_
    rw [heap_alloc_eq, hs]; simp
  · refine TV_own.2 ⟨Nat.lt_succ_self _, _, cap, rfl, hcap, by rw [Emb.push_loc]; simp, .inr ⟨w.heap.size, 0, by rw [Emb.push_loc], by simp⟩⟩

theorem TV_ownR {g i n : Nat} {c : Value} {l : List AV} {t : TypeId} {sz : Nat} (hR : Rep E A w) (hs : TV E (.own g i n) c) (hc : RepC E w g (.row t sz l)) (hin : i + n ≤ l.length) :
    ∃ a cap, c = .slice a n cap ∧ n ≤ cap ∧ i + cap ≤ (E.loc g).room ∧ (E.loc g).sz = sz ∧
      (n = 0 ∧ cap = 0 ∨ ∃ b off C, (E.loc g).addr = some (b, off) ∧ a = some (pA b (off + i * sz)) ∧ E.F b = none ∧ Blk w b C t ∧
        off + (E.loc g).room * sz ≤ C.size ∧ VRe E sz ((l.drop i).take n) ((C.toList.drop (off + i * sz)).take (n * sz))) := by
  obtain ⟨hg, a, cap, rfl, hcap, hroom, hloc⟩ := TV_own.1 hs
  obtain ⟨hsz, _⟩ := id hc
  refine ⟨a, cap, rfl, hcap, hroom, hsz, ?_⟩
  rcases hloc with rfl | ⟨b, off, ha, rfl⟩
  · exact .inl ⟨by omega, rfl⟩
  · obtain ⟨_, hr, hF, C, hb, hC, hv⟩ := row_cells hc ha
    refine .inr ⟨b, off, C, ha, by rw [hsz], hF, hb, hC, ?_⟩
    have hv2 := VRe_take n (VRe_drop i hv)
    have e1 : ((C.toList.drop off).take (l.length * sz)).drop (i * sz) = ((C.toList.drop (off + i * sz)).take (l.length * sz - i * sz)) := by
      rw [List.drop_take, List.drop_drop]
    rw [e1, List.take_take] at hv2
    have h2 : (i + n) * sz ≤ l.length * sz := Nat.mul_le_mul_right _ hin
    rw [Nat.add_mul] at h2
    rwa [Nat.min_eq_left (by omega)] at hv2

/-- What an append does to its first argument, given what is appended. -/
def aappD (e : TypeId) (sz bytes : Nat) (d : AV) (ys : List AV) (A : Heap) (K : AV → Heap → Prop) : Prop :=
  match d with
  | .nilS => ys.length * bytes ≤ 140737488355328 ∧ ∀ g, A g = none → K (.own g 0 ys.length) (A.set g (.row e sz ys))
  | .own g i n => match A g with
    | some (.row e' sz' l) => e' = e ∧ sz' = sz ∧ i + n ≤ l.length ∧ (n + ys.length) * bytes ≤ 140737488355328 ∧
        ∀ g', A g' = none → K (.own g' 0 (n + ys.length)) ((A.del g).set g' (.row e sz ((l.drop i).take n ++ ys)))
    | _ => False
  | _ => False
theorem app_core {t tx ty e : TypeId} {i : TypeInfo} {z : Value} (hR : Rep E A w) (hi : P.info? e = some i) (hz : i.zero = some z) (hzs : z.cells.size = i.size)
    (hby : 0 < i.bytes) {d : AV} {c c' : Value} (hd : TV E d c) {ys : List AV} {cs : List Value} (hr : AppSrc P w E t tx e i z c' ys cs) (hst : AV.sts ys = true) (h : aappD e i.size i.bytes d ys A K) :
    Res E w K ((do pure (Next.value (← Builtin.append_ #[t, tx] ty #[c, c'])) : Sem Next).run P w) := by
  unfold aappD at h
  have hone : ∀ x ∈ cs, x.oneCell' = true := by
    have key : ∀ (l : List AV) (ds : List Value), AV.sts l = true → VRe E i.size l ds → ∀ x ∈ ds, x.oneCell' = true := by
      intro l
      induction l with
      | nil => intro ds _ hv; simp [VRe] at hv; subst hv; simp
      | cons v r ih =>
        intro ds hs hv
        simp only [AV.sts, Bool.and_eq_true] at hs
        obtain ⟨c1, c2, rfl, _, hv1, hv2⟩ := hv
        intro x hx
        rcases List.mem_append.1 hx with hx | hx
        · exact st_one v c1 hs.1 hv1 x hx
        · exact ih c2 hs.2 hv2 x hx
    exact key ys cs hst hr.cells
  have hl := VRe_len hr.cells
  -- a new row
  have grow : ∀ (base : Option Addr) (sLen sCap : Nat) (olds : List Value) (l : List AV) (A1 : Heap), Rep E A1 w → VRe E i.size l olds → l.length = sLen →
      (Builtin.firstCells i.size sLen (.slice base sLen sCap)).run P w.drew = .ok olds.toArray w.drew → sLen ≤ sCap → sCap < sLen + ys.length → (sLen + ys.length) * i.bytes ≤ 140737488355328 →
      K (.own E.N 0 (sLen + ys.length)) (A1.set E.N (.row e i.size (l ++ ys))) → Res E w K ((do pure (Next.value (← Builtin.append_ #[t, tx] ty #[.slice base sLen sCap, c'])) : Sem Next).run P w) := by
    intro base sLen sCap olds l A1 hR1 hv hll ho hle hg hb hk
    have h63 : sLen + ys.length ≤ 9223372036854775807 := by
      have : (sLen + ys.length) * 1 ≤ (sLen + ys.length) * i.bytes := Nat.mul_le_mul_left _ hby
      omega
    simp only [Sem.run_bind, hr.grow ho hle hg hb h63, Result.andThen_ok, Sem.run_pure]
    have hlo := VRe_len hv
    have hge := grownCap_ge w (sLen + ys.length) sCap e
    obtain ⟨hR2, hT⟩ := new_row hR1 (e := e) (VRe_append hv hr.cells) (w1 := w.drew) rfl (C := olds.toArray ++ cs.toArray ++ Builtin.zeroCells z.cells (grownCap w (sLen + ys.length) sCap e - (sLen + ys.length)))
      (cap := grownCap w (sLen + ys.length) sCap e) (by simp [hll]; omega) (by
        simp only [Array.size_append, List.size_toArray, size_zeroCells, hzs, hlo, hl, hll, ← Nat.add_mul]
        exact Nat.mul_le_mul_right _ (by omega)) (fun j hj => by
        rw [Array.getElem?_append_left (by simpa using hj)]
        simp)
    have hlen : (l ++ ys).length = sLen + ys.length := by simp [hll]
    rw [hlen] at hT
    exact ⟨_, _, _, _, hk, hR2, E.push_le _, ⟨rfl, rfl, by show w.heap.size ≤ (w.heap.push _).size; simp⟩, .inl ⟨_, rfl, hT⟩⟩
  split at h
  · -- nil
    simp only [TV_nilS] at hd; subst hd
    obtain ⟨hb, hk⟩ := h
    by_cases h0 : ys.length = 0
    · have : ys = [] := List.eq_nil_of_length_eq_zero h0
      subst this
      have hcs : cs = [] := List.eq_nil_of_length_eq_zero (by simpa using hl)
      subst hcs
      have hrun : (Builtin.append_ #[t, tx] ty #[.slice none 0 0, c']).run P w = .ok (.slice none 0 0) w := hr.zero rfl none ty
      simp only [Sem.run_bind, hrun, Result.andThen_ok, Sem.run_pure]
      refine ⟨.own E.N 0 0, A.set E.N (.row e i.size []), E.push ⟨none, i.size, 0⟩, w, hk _ hR.fresh, ?_, E.push_le _, Same.refl w, .inl ⟨_, rfl, ?_⟩⟩
      · refine hR.push _ _ (fun b o ho => hR.frm b o ho) (fun _ _ _ _ _ _ => rfl) (fun b off ha => by cases ha) (fun b o hb => ⟨(hR.hid b o hb).1, fun off e => by cases e⟩) ⟨by rw [Emb.push_loc], by simp, .inl ⟨by rw [Emb.push_loc], by rw [Emb.push_loc]⟩⟩
      · exact TV_own.2 ⟨Nat.lt_succ_self _, _, 0, rfl, Nat.le_refl _, by rw [Emb.push_loc]; exact Nat.le_refl _, .inl rfl⟩
    · have := grow none 0 0 [] [] A hR rfl rfl (by simp [Builtin.firstCells]) (Nat.le_refl _) (by omega) (by simpa using hb) (by simpa using hk _ hR.fresh)
      exact this
  · rename_i g ii n
    split at h
    · rename_i e' sz' l hA
      obtain ⟨rfl, rfl, hin, hb, hk⟩ := h
      have hfr : A E.N = none := hR.fresh
      have hl0 : ((l.drop ii).take n).length = n := by simp; omega
      obtain ⟨a, cap, rfl, hcap, hroom, hsz, hcase⟩ := TV_ownR hR hd (hR.cont g _ hA) hin
      rcases hcase with ⟨rfl, rfl⟩ | ⟨b, off, C, ha, rfl, hF, hbl, hC, hv⟩
      · -- nil
        have hgd := hk _ hfr
        simp only [List.take_zero, List.nil_append, Nat.zero_add] at hgd
        by_cases h0 : ys.length = 0
        · have : ys = [] := List.eq_nil_of_length_eq_zero h0
          subst this
          have hcs : cs = [] := List.eq_nil_of_length_eq_zero (by simpa using hl)
          subst hcs
          have hrun : (Builtin.append_ #[t, tx] ty #[.slice a 0 0, c']).run P w = .ok (.slice a 0 0) w := hr.zero rfl a ty
          simp only [Sem.run_bind, hrun, Result.andThen_ok, Sem.run_pure]
          refine ⟨.own E.N 0 0, (A.del g).set E.N (.row e' i.size []), E.push ⟨none, i.size, 0⟩, w, hgd, ?_, E.push_le _, Same.refl w, .inl ⟨_, rfl, ?_⟩⟩
          · refine (hR.del g).push _ _ (fun b o ho => hR.frm b o ho) (fun _ _ _ _ _ _ => rfl) (fun b off ha => by cases ha) (fun b o hb => ⟨(hR.hid b o hb).1, fun off e => by cases e⟩) ⟨by rw [Emb.push_loc], by simp, .inl ⟨by rw [Emb.push_loc], by rw [Emb.push_loc]⟩⟩
          · exact TV_own.2 ⟨Nat.lt_succ_self _, _, 0, rfl, Nat.le_refl _, by rw [Emb.push_loc]; exact Nat.le_refl _, .inl rfl⟩
        · exact grow a 0 0 [] [] (A.del g) (hR.del g) rfl rfl (by cases a <;> simp [Builtin.firstCells, loadCells, loadCellsFrom]) (Nat.le_refl _) (by omega) (by simpa using hb) (by simpa using hgd)
      · by_cases hroom2 : n + ys.length ≤ cap
        · -- in place
          have hfit : off + ii * i.size + cap * i.size ≤ C.size := by
            have : (ii + cap) * i.size ≤ (E.loc g).room * i.size := Nat.mul_le_mul_right _ (by omega)
            rw [Nat.add_mul] at this; omega
          simp only [Sem.run_bind, hr.room hbl hroom2 hfit hone, Result.andThen_ok, Sem.run_pure]
          have hm : (n + ys.length) * i.size ≤ cap * i.size := Nat.mul_le_mul_right _ hroom2
          rw [Nat.add_mul] at hm
          have hlv := VRe_len hv
          rw [hl0] at hlv
          refine ⟨.own E.N 0 (n + ys.length), (A.del g).set E.N (.row e' i.size ((l.drop ii).take n ++ ys)), E.push ⟨some (b, off + ii * i.size), i.size, cap⟩, _, hk _ hfr, ?_, E.push_le _, Same.setRow _ _ _, .inl ⟨_, rfl, ?_⟩⟩
          · refine (hR.del g).push _ _ (fun x o ho => ?_) (fun g' c' hg' b' off' ha' => ?_) (fun b1 off1 e1 g' c' hg' b' off' ha' => ?_) (fun x o ho => ?_) ?_
            · have hne : x ≠ b := fun e => by subst e; rw [hF] at ho; cases ho
              rw [setRow_heap_ne _ _ _ _ hne]; exact hR.frm x o ho
            · refine setRow_heap_ne _ _ _ _ fun e => ?_
              have hgn : g' ≠ g := fun e => by simp [Heap.del, e] at hg'
              exact hR.sep g' g c' _ (by simpa [Heap.del, hgn] using hg') hA hgn _ _ ha' ha e
            · injection e1 with e1; injection e1 with e1 e2; subst e1
              have hgn : g' ≠ g := fun e => by simp [Heap.del, e] at hg'
              exact hR.sep g' g c' _ (by simpa [Heap.del, hgn] using hg') hA hgn _ _ ha' ha
            · have hx := hR.hid x o ho
              have hne : x ≠ b := fun e => by subst e; exact hx.2.2 _ _ hA _ ha
              refine ⟨by rw [setRow_heap_ne _ _ _ _ hne]; exact hx.1, fun o' e => ?_⟩
              injection e with e; injection e with e1 e2; exact hne e1.symm
            · refine row_of (b := b) (off := off + ii * i.size) (by rw [Emb.push_loc]) (by rw [Emb.push_loc]; simp [hl0]; omega) (by rw [Emb.push_loc]) hF (hbl.setRow (by simp; omega)) ?_ (VRe_mono (E.push_le _) (VRe_append hv hr.cells)) (fun j hj => ?_)
              · rw [Emb.push_loc]; simp; omega
              · simp only [List.length_append, hlv, hl] at hj
                have s1 := seg_get C.toList cs (off + ii * i.size + n * i.size) (by rw [hl]; simp; omega) (off + ii * i.size + j)
                rw [List.getElem?_toArray, s1, hl]
                by_cases hjn : j < n * i.size
                · rw [if_neg (by omega), List.getElem?_append_left (by rw [hlv]; exact hjn), List.getElem?_take, if_pos hjn, List.getElem?_drop]
                · rw [if_pos (by omega), List.getElem?_append_right (by rw [hlv]; omega), hlv]
                  congr 1; omega
          · exact TV_own.2 ⟨Nat.lt_succ_self _, _, cap, rfl, hroom2, by rw [Emb.push_loc]; simp, .inr ⟨b, off + ii * i.size, by rw [Emb.push_loc], by simp⟩⟩
        · refine grow _ n cap _ _ (A.del g) (hR.del g) hv hl0 ?_ hcap (by omega) hb (hk _ hfr)
          have hrd := reads_at (P := P) (w := w) (E := E) (a := some (pA b (off + ii * i.size))) (cap := cap) hv (fun _ => ⟨b, _, rfl, fun j v hj => ?_⟩)
          · have := hrd.first w.drew n rfl (by rw [hl0]; exact Nat.le_refl _)
            rw [hl0] at this
            rwa [List.take_take, Nat.min_self] at this
          · rw [hbl.cell]
            rw [List.getElem?_take] at hj
            split at hj
            · rw [List.getElem?_drop] at hj
              rw [← hj]; simp
            · cases hj
    · exact h.elim
  · exact h.elim

theorem app_ok {t tx ty e : TypeId} {i : TypeInfo} {z : Value} (hR : Rep E A w) (ht : P.underlying t = some (.slice e)) (hx : srcT P tx = true) (hi : P.info? e = some i) (hz : i.zero = some z) (hzs : z.cells.size = i.size)
    (hby : 0 < i.bytes) {d s : AV} {c c' : Value} (hd : TV E d c) (hs : TV E s c') (h : aapp e i.size i.bytes d s A K) :
    Res E w K ((do pure (Next.value (← Builtin.append_ #[t, tx] ty #[c, c'])) : Sem Next).run P w) := by
  obtain ⟨ys, cs, ⟨hst, h2⟩, hr⟩ := srcG_ok (P := P) hR hs h
  exact app_core hR hi hz hzs hby hd (AppSrc.of ht hx hi hz hr) hst h2
end
end AVL

/- append of whole numbers; make; slice literals; parts of slices; lengths; addresses of elements. -/
namespace AVL
open Go
set_option linter.unusedSimpArgs false
set_option linter.unusedVariables false

section
variable {P : Program} {w : World} {E : Emb} {A : Heap} {K : AV → Heap → Prop}

theorem Res.mono {K' : AV → Heap → Prop} {r : Result Next} (h : Res E w K r) (hk : ∀ v A', K v A' → K' v A') : Res E w K' r := by
  obtain ⟨v, A', E', w', h1, h2⟩ := h
  exact ⟨v, A', E', w', hk _ _ h1, h2⟩
/-- Where a new row is one of whole numbers. -/
theorem Res.irow {k : IntKind} {e : TypeId} {r : Result Next}
    (h : Res E w (fun v A' => ∃ X g l, A' = Heap.set X g (.row e 1 (l.map (AV.int k))) ∧ K v (Heap.set X g (.irow e k l))) r) : Res E w K r := by
  obtain ⟨v, A', E', w', ⟨X, g, l, rfl, hk⟩, hR, h⟩ := h
  exact ⟨v, _, E', w', hk, hR.irow, h⟩

theorem Rep.torow {g : Nat} {e : TypeId} {k : IntKind} {l : List Int} (h : Rep E A w) (hA : A g = some (.irow e k l)) : Rep E (A.set g (.row e 1 (l.map (AV.int k)))) w := by
  refine ⟨h.frm, fun g' c hg => ?_, fun g' c hg => ?_, fun g1 g2 c1 c2 h1 h2 hne => ?_, fun g' c hg => ?_, h.lon, fun b o hb => ⟨(h.hid b o hb).1, (h.hid b o hb).2.1, fun g' c hg => ?_⟩⟩
  · simp only [Heap.set] at hg
    split at hg
    · rename_i e; subst e; exact h.lt _ _ hA
    · exact h.lt g' c hg
  · simp only [Heap.set] at hg
    split at hg
    · rename_i e; subst e; injection hg with hg; subst hg; exact irow_row.1 (h.cont _ _ hA)
    · exact h.cont g' c hg
  · have key : ∀ g' c, (A.set g (.row e 1 (l.map (AV.int k)))) g' = some c → ∃ y, A g' = some y := fun g' c hx => by
      simp only [Heap.set] at hx
      split at hx
      · rename_i e; subst e; exact ⟨_, hA⟩
      · exact ⟨_, hx⟩
    obtain ⟨y1, k1⟩ := key _ _ h1
    obtain ⟨y2, k2⟩ := key _ _ h2
    exact h.sep _ _ _ _ k1 k2 hne
  · simp only [Heap.set] at hg
    split at hg
    · rename_i e; subst e; exact h.low _ _ hA
    · exact h.low g' c hg
  · simp only [Heap.set] at hg
    split at hg
    · rename_i e; subst e; exact (h.hid b o hb).2.2 _ _ hA
    · exact (h.hid b o hb).2.2 g' c hg
theorem srcG_torow {g : Nat} {e : TypeId} {k : IntKind} {l : List Int} (hA : A g = some (.irow e k l)) {s : AV} {Q : List AV → Prop} (h : srcG 1 s A Q) : srcG 1 s (A.set g (.row e 1 (l.map (AV.int k)))) Q := by
  unfold srcG at h ⊢
  split at h <;> try exact h
  · rename_i g' i n
    by_cases hg : g' = g
    · subst hg
      rw [Heap.set_same]
      rw [hA] at h
      obtain ⟨_, h1, h2⟩ := h
      exact ⟨rfl, by simpa using h1, by simpa [List.map_take, List.map_drop] using h2⟩
    · rw [Heap.set_ne _ _ hg]; exact h
  · rename_i g' o m i n
    by_cases hg : g' = g
    · subst hg
      rw [hA] at h; exact h.elim
    · rw [Heap.set_ne _ _ hg]; exact h
theorem Heap.del_set (A : Heap) (g : Nat) (c : Cont) : (A.set g c).del g = A.del g := by
  funext x; simp only [Heap.del, Heap.set]; split <;> simp_all
theorem sts_ints (k : IntKind) : ∀ (l : List Int), AV.sts (l.map (AV.int k)) = true
  | [] => rfl
  | n :: r => by simp [AV.sts, AV.st, sts_ints k r]

theorem srcG_ex {sz : Nat} {s : AV} {Q : List AV → Prop} (h : srcG sz s A Q) : ∃ vs, Q vs ∧ srcG sz s A fun x => x = vs := by
  unfold srcG at h
  split at h
  · exact ⟨_, h, by simp [srcG]⟩
  · exact ⟨_, h.2, by simp [srcG, h.1]⟩
  · exact ⟨_, h.2, by simp [srcG, h.1]⟩
  · exact ⟨_, h.2, by simp [srcG, h.1]⟩
  · split at h
    · rename_i hA; exact ⟨_, h.2.2, by simp [srcG, hA, h.1, h.2.1]⟩
    · rename_i hA; exact ⟨_, h.2.2, by simp [srcG, hA, h.1, h.2.1]⟩
    · exact h.elim
  · split at h
    · rename_i hA
      split at h
      · rename_i hg; exact ⟨_, h.2.2, by simp [srcG, hA, hg, h.1, h.2.1]⟩
      · exact h.elim
    · exact h.elim
  · exact h.elim
theorem srcG_mono {sz : Nat} {s : AV} {Q Q' : List AV → Prop} (h : srcG sz s A Q) (hq : ∀ l, Q l → Q' l) : srcG sz s A Q' := by
  unfold srcG at h
  split at h
  · exact hq _ h
  · exact ⟨h.1, hq _ h.2⟩
  · exact ⟨h.1, hq _ h.2⟩
  · exact ⟨h.1, hq _ h.2⟩
  · split at h
    · rename_i hA; simp only [srcG, hA]; exact ⟨h.1, h.2.1, hq _ h.2.2⟩
    · rename_i hA; simp only [srcG, hA]; exact ⟨h.1, h.2.1, hq _ h.2.2⟩
    · exact h.elim
  · split at h
    · rename_i hA
      split at h
      · rename_i hg; simp only [srcG, hA, hg]; exact ⟨h.1, h.2.1, hq _ h.2.2⟩
      · exact h.elim
    · exact h.elim
  · exact h.elim
theorem srcI_ex {k : IntKind} {s : AV} {Q : List Int → Prop} (h : srcI k s A Q) : ∃ ys, Q ys ∧ srcG 1 s A fun x => x = ys.map (AV.int k) := by
  obtain ⟨vs, ⟨ys, rfl, hq⟩, h2⟩ := srcG_ex (srcI_G h)
  exact ⟨ys, hq, h2⟩

theorem appI_ok {t tx ty e : TypeId} {i : TypeInfo} {z : Value} {k : IntKind} (hR : Rep E A w) (ht : P.underlying t = some (.slice e)) (hx : srcT P tx = true) (hi : P.info? e = some i) (hz : i.zero = some z) (hzs : z.cells.size = i.size)
    (h1 : i.size = 1) (hby : 0 < i.bytes) {d s : AV} {c c' : Value} (hd : TV E d c) (hs : TV E s c') (h : aappI e k i.bytes d s A K) :
    Res E w K ((do pure (Next.value (← Builtin.append_ #[t, tx] ty #[c, c'])) : Sem Next).run P w) := by
  obtain ⟨ys, h2, hG⟩ := srcI_ex h
  clear h
  have h := h2
  clear h2
  split at h
  · obtain ⟨hb, hk⟩ := h
    refine Res.irow (e := e) (k := k) (app_ok hR ht hx hi hz hzs hby hd hs ?_)
    rw [h1]
    refine srcG_mono hG ?_
    rintro _ rfl
    exact ⟨sts_ints k ys, by simpa using hb, fun g hg => ⟨A, g, ys, rfl, by simpa using hk g hg⟩⟩
  · rename_i g ii n
    split at h
    · rename_i e' k' l hA
      obtain ⟨rfl, rfl, hin, hb, hk⟩ := h
      refine Res.irow (e := e') (k := k') (app_ok (hR.torow hA) ht hx hi hz hzs hby hd hs ?_)
      rw [h1]
      refine srcG_mono (srcG_torow hA hG) ?_
      rintro _ rfl
      refine ⟨sts_ints _ ys, ?_⟩
      simp only [Heap.set_same]
      refine ⟨trivial, trivial, by simpa using hin, by simpa using hb, fun g' hg' => ?_⟩
      rw [Heap.del_set]
      have hg0 : A g' = none := by
        by_cases e : g' = g
        · subst e; rw [Heap.set_same] at hg'; cases hg'
        · rwa [Heap.set_ne _ _ e] at hg'
      refine ⟨A.del g, g', (l.drop ii).take n ++ ys, by simp [List.map_take, List.map_drop], by simpa using hk g' hg0⟩
    · exact h.elim
  · rename_i g o m ii n
    split at h
    · rename_i t' l hA
      split at h
      · rename_i k' xs hget
        obtain ⟨rfl, hxl, hin, hpos, hb, hk⟩ := h
        obtain ⟨ys', cs, rfl, hr⟩ := srcG_ok (P := P) hR hs (show srcG i.size s A _ by rw [h1]; exact hG)
        have hsrc : srcG 1 (.asl g o m ii n) A fun x => x = ((xs.drop ii).take n).map (AV.int k') := by simp [srcG, hA, hget, hxl]
        obtain ⟨os, olds, rfl, ho⟩ := srcG_ok (P := P) hR hd hsrc
        obtain ⟨hg, him, a, rfl, hloc⟩ := TV_asl.1 hd
        have hol := VRe_len ho.cells
        have hl := VRe_len hr.cells
        have hlen : ((xs.drop ii).take n).length = n := by simp; omega
        simp only [List.length_map, hlen, Nat.mul_one] at hol
        simp only [List.length_map, h1, Nat.mul_one] at hl
        have hfo := ho.first w.drew n rfl (by simp; omega)
        rw [Nat.mul_one, ← hol, List.take_length, hol] at hfo
        have h63 : n + (ys.map (AV.int k')).length ≤ 9223372036854775807 := by
          have : (n + ys.length) * 1 ≤ (n + ys.length) * i.bytes := Nat.mul_le_mul_left _ hby
          simp; omega
        have hrun := app_grow (base := a) (sLen := n) (sCap := m - ii) (ty := ty) ht hx hi hz (olds := olds) (by rw [h1]; exact hfo) hr (by simp; omega) (by simpa using hb) h63
        have hge := grownCap_ge w (n + (ys.map (AV.int k')).length) (m - ii) e
        simp only [List.length_map] at hrun hge
        simp only [Sem.run_bind, hrun, Result.andThen_ok, Sem.run_pure]
        have hcells : VRe E 1 (((xs.drop ii).take n ++ ys).map (AV.int k')) (olds ++ cs) := by
          rw [List.map_append]; exact VRe_append ho.cells (by have := hr.cells; rwa [h1] at this)
        obtain ⟨hR2, hT⟩ := new_row hR (e := e) hcells (w1 := w.drew) rfl (C := olds.toArray ++ cs.toArray ++ Builtin.zeroCells z.cells (grownCap w (n + ys.length) (m - ii) e - (n + ys.length)))
          (cap := grownCap w (n + ys.length) (m - ii) e) (by simp at hlen ⊢; omega) (by
            simp only [Array.size_append, List.size_toArray, size_zeroCells, hzs, h1, hol, hl]
            omega) (fun j hj => by
            rw [Array.getElem?_append_left (by simpa using hj)]
            simp)
        have hlen2 : (((xs.drop ii).take n ++ ys).map (AV.int k')).length = n + ys.length := by simp at hlen ⊢; omega
        rw [hlen2] at hT
        exact ⟨_, _, _, _, hk _ hR.fresh, hR2.irow, E.push_le _, ⟨rfl, rfl, by show w.heap.size ≤ (w.heap.push _).size; simp⟩, .inl ⟨_, rfl, hT⟩⟩
      · exact h.elim
    · exact h.elim
  · exact h.elim
end
end AVL

/- Lengths, addresses of elements, parts of slices, make, slice literals, conversions, equality. -/
namespace AVL
open Go
set_option linter.unusedSimpArgs false
set_option linter.unusedVariables false

section
variable {P : Program} {w : World} {E : Emb} {A : Heap} {K : AV → Heap → Prop}

/-! ### length -/
def alen (str : Bool) (x : AV) (K : AV → Prop) : Prop :=
  match str with
  | true => match x with
    | .str s => K (.int .i64 s.size)
    | _ => False
  | false => match x with
    | .nilS => K (.int .i64 0)
    | .isl _ l => K (.int .i64 l.length)
    | .dsl _ l => K (.int .i64 l.length)
    | .own _ _ n => K (.int .i64 n)
    | .asl _ _ _ _ n => K (.int .i64 n)
    | _ => False
def lenT (P : Program) (t : TypeId) : Option Bool := match P.underlying t with
  | some .string => some true
  | some (.slice _) => some false
  | _ => none
theorem len_ok {t ty : TypeId} {str : Bool} {x : AV} {c : Value} (hR : Rep E A w) (ht : lenT P t = some str) (hx : TV E x c) (h : alen str x fun v => K v A) :
    ResV E A w K ((do pure (Next.value (← Builtin.len_ #[t] ty #[c])) : Sem Next).run P w) := by
  have main : ∀ n : Nat, (Builtin.len_ #[t] ty #[c]).run P w = .ok (.int .i64 n) w → K (.int .i64 n) A → ResV E A w K ((do pure (Next.value (← Builtin.len_ #[t] ty #[c])) : Sem Next).run P w) := by
    intro n hr hk
    simp only [Sem.run_bind, hr, Result.andThen_ok, Sem.run_pure]
    exact Res.val hR hk (TV_int.2 rfl)
  unfold alen at h
  unfold lenT at ht
  split at ht
  · rename_i hu
    injection ht with ht; subst ht
    simp only at h
    split at h
    · simp only [TV_str] at hx; subst hx
      exact main _ (by simp [Builtin.len_, run_underlying hu, goInt]) h
    · exact h.elim
  · rename_i e hu
    injection ht with ht; subst ht
    have sl : ∀ a n cap, c = .slice a n cap → (Builtin.len_ #[t] ty #[c]).run P w = .ok (.int .i64 n) w := by
      rintro a n cap rfl
      simp [Builtin.len_, run_underlying hu, goInt]
    simp only at h
    split at h
    · simp only [TV_nilS] at hx; exact main 0 (sl _ _ _ hx) h
    · obtain ⟨a, cap, rfl, _⟩ := TV_isl.1 hx; exact main _ (sl _ _ _ rfl) h
    · obtain ⟨a, cap, rfl, _⟩ := TV_dsl.1 hx; exact main _ (sl _ _ _ rfl) h
    · obtain ⟨_, a, cap, rfl, _⟩ := TV_own.1 hx; exact main _ (sl _ _ _ rfl) h
    · obtain ⟨_, _, a, rfl, _⟩ := TV_asl.1 hx; exact main _ (sl _ _ _ rfl) h
    · exact h.elim
  · cases ht

/-! ### the address of an element -/
def aidx (sz : Nat) (x : AV) (i : Int) (A : Heap) (K : AV → Heap → Prop) : Prop :=
  match x with
  | .isl k l => sz = 1 ∧ 0 ≤ i ∧ i < l.length ∧ K (.pval (.int k (l.getD i.toNat 0))) A
  | .dsl s l => s = sz ∧ 0 ≤ i ∧ ∃ h : i.toNat < l.length, K (.pval l[i.toNat]) A
  | .own g i0 n => (match A g with
    | some (.irow ..) => sz = 1
    | some (.row _ s _) => s = sz
    | _ => False) ∧ 0 ≤ i ∧ i < n ∧ K (.pel g (i0 + i.toNat) 0) A
  | .asl g o m i0 n => sz = 1 ∧ 0 ≤ i ∧ i < n ∧ K (.pix g o m (i0 + i.toNat)) A
  | _ => False
theorem idx_ok {t e : TypeId} {sz : Nat} {x : AV} {c : Value} {k : IntKind} {n : Int} (hR : Rep E A w) (ht : P.underlying t = some (.slice e)) (hs : (P.info? e).map (·.size) = some sz)
    (hx : TV E x c) (h : aidx sz x n A K) :
    ResV E A w K ((do pure (Next.value (← Instr.indexAt t c (.int k n))) : Sem Next).run P w) := by
  have hsize : (Go.sizeOf e).run P w = .ok sz w := by
    cases hi : P.info? e with
    | none => rw [hi] at hs; simp at hs
    | some j => rw [hi] at hs; simp at hs; subst hs; simp [Go.sizeOf, typeInfo, hi]
  have main : ∀ b off len cap, c = .slice (some (pA b off)) len cap → 0 ≤ n → n < len →
      (do pure (Next.value (← Instr.indexAt t c (.int k n))) : Sem Next).run P w = .ok (.value (.pointer (some (pA b (off + n.toNat * sz))))) w := by
    rintro b off len cap rfl h0 h1
    simp [Instr.indexAt, asIntOf, run_underlying ht, h0, h1, hsize, pA_add]
  unfold aidx at h
  split at h
  · rename_i k' l
    obtain ⟨rfl, h0, h1, hk⟩ := h
    obtain ⟨a, cap, rfl, hcap, hp⟩ := TV_isl.1 hx
    obtain ⟨b, off, rfl, hc⟩ := hp (by omega)
    rw [main b off _ cap rfl h0 h1]
    refine Res.val hR hk (TV_pval.2 ⟨b, _, [.int k' (l.getD n.toNat 0)], rfl, rfl, fun j hj => ?_, by simp [VR]⟩)
    simp only [AV.size] at hj
    have hj0 : j = 0 := by omega
    subst hj0
    have := hc n.toNat (by omega)
    simpa using this
  · rename_i s l
    obtain ⟨rfl, h0, h1, hk⟩ := h
    obtain ⟨a, cap, rfl, hcap, hp⟩ := TV_dsl.1 hx
    obtain ⟨b, off, rfl, hsr⟩ := hp (by omega)
    rw [main b off _ cap rfl h0 (by omega)]
    obtain ⟨cs, hv, hcell⟩ := SR_get hsr
    obtain ⟨d, hd, hdc, hdv⟩ := VRe_get hv (List.getElem?_eq_getElem h1)
    have hl := VRe_len hv
    have hm : (n.toNat + 1) * s ≤ l.length * s := Nat.mul_le_mul_right _ h1
    rw [Nat.succ_mul] at hm
    have hvs : l[n.toNat].size = s := by rw [← VR_len _ _ hdv, hd]
    refine Res.val hR hk (TV_pval.2 ⟨b, _, d, rfl, by rw [hd, hvs], fun j hj => ?_, hdv⟩)
    rw [hvs] at hj
    rw [← hdc j hj, ← hcell _ (by omega)]
    congr 1; omega
  · rename_i g i0 m
    obtain ⟨hsz, h0, h1, hk⟩ := h
    obtain ⟨hg, a, cap, rfl, hcap, hroom, hloc⟩ := TV_own.1 hx
    rcases hloc with rfl | ⟨b, off, ha, rfl⟩
    · omega
    have hsz2 : (E.loc g).sz = sz := by
      split at hsz
      · rename_i hA; obtain ⟨h, _⟩ := hR.cont g _ hA; rw [h, hsz]
      · rename_i hA; obtain ⟨h, _⟩ := hR.cont g _ hA; rw [h, hsz]
      · exact hsz.elim
    rw [main b _ _ cap rfl h0 h1]
    refine Res.val hR hk (TV_pel.2 ⟨hg, b, off, ha, ?_⟩)
    rw [hsz2, Nat.add_mul]; simp [Nat.add_assoc]
  · rename_i g o m i0 n'
    obtain ⟨rfl, h0, h1, hk⟩ := h
    obtain ⟨hg, him, a, rfl, hloc⟩ := TV_asl.1 hx
    rcases hloc with rfl | ⟨b, off, ha, rfl⟩
    · omega
    rw [main b _ _ _ rfl h0 h1]
    refine Res.val hR hk (TV_pix.2 ⟨hg, by omega, b, off, ha, by simp [Nat.add_assoc]⟩)
  · exact h.elim

/-! ### the address of an array's element -/
def aidxA (m sz : Nat) (ints : Bool) (x : AV) (i : Int) (A : Heap) (K : AV → Heap → Prop) : Prop :=
  match x with
  | .ptr g o => 0 ≤ i ∧ i < m ∧ (match ints with
    | true => K (.pix g o m i.toNat) A
    | false => K (.ptr g (o + i.toNat * sz)) A)
  | .pel g j o => 0 ≤ i ∧ i < m ∧ (match ints with
    | true => K (.pel g j (o + i.toNat)) A
    | false => K (.pel g j (o + i.toNat * sz)) A)
  | .pval (.iarr k m' l) => 0 ≤ i ∧ i < m ∧ ints = true ∧ m' = m ∧ K (.pval (.int k (l.getD i.toNat 0))) A
  | _ => False
def idxAT (P : Program) (t : TypeId) : Option (Nat × Nat × Bool) :=
  match P.underlying t with
  | some (.array m e) => match P.underlying e, P.info? e with
    | some (.int _), some j => if j.size = 1 then some (m, 1, true) else none
    | some _, some j => some (m, j.size, false)
    | _, _ => none
  | _ => none
theorem idxA_ok {t : TypeId} {m sz : Nat} {ints : Bool} {x : AV} {c : Value} {k : IntKind} {n : Int} (hR : Rep E A w) (ht : idxAT P t = some (m, sz, ints)) (hx : TV E x c) (h : aidxA m sz ints x n A K) :
    ResV E A w K ((do pure (Next.value (← Instr.indexAt t c (.int k n))) : Sem Next).run P w) := by
  unfold idxAT at ht
  split at ht
  · rename_i m' e hu
    have hT : m' = m ∧ (Go.sizeOf e).run P w = .ok sz w ∧ (ints = true → sz = 1) := by
      split at ht
      · rename_i j _ hi
        split at ht
        · rename_i hj
          injection ht with ht; injection ht with e1 e2; injection e2 with e2 e3; subst e1; subst e2; subst e3
          exact ⟨rfl, by simp [Go.sizeOf, typeInfo, hi, hj], fun _ => rfl⟩
        · cases ht
      · rename_i j _ _ hi
        injection ht with ht; injection ht with e1 e2; injection e2 with e2 e3; subst e1; subst e2; subst e3
        exact ⟨rfl, by simp [Go.sizeOf, typeInfo, hi], fun h => by cases h⟩
      · cases ht
    obtain ⟨rfl, hsize, hi1⟩ := hT
    have main : ∀ b off, c = .pointer (some (pA b off)) → 0 ≤ n → n < m' →
        (do pure (Next.value (← Instr.indexAt t c (.int k n))) : Sem Next).run P w = .ok (.value (.pointer (some (pA b (off + n.toNat * sz))))) w := by
      rintro b off rfl h0 h1
      simp [Instr.indexAt, asIntOf, run_underlying hu, h0, h1, hsize, pA_add, Instr.sureAddr]
    unfold aidxA at h
    split at h
    · obtain ⟨h0, h1, h⟩ := h
      obtain ⟨hg, b, off, ha, rfl⟩ := TV_ptr.1 hx
      rw [main b _ rfl h0 h1]
      split at h
      · have := hi1 rfl; subst this
        exact Res.val hR h (TV_pix.2 ⟨hg, by omega, b, off, ha, by simp⟩)
      · exact Res.val hR h (TV_ptr.2 ⟨hg, b, off, ha, by rw [Nat.add_assoc]⟩)
    · obtain ⟨h0, h1, h⟩ := h
      obtain ⟨hg, b, off, ha, rfl⟩ := TV_pel.1 hx
      rw [main b _ rfl h0 h1]
      split at h
      · have := hi1 rfl; subst this
        exact Res.val hR h (TV_pel.2 ⟨hg, b, off, ha, by rw [Nat.add_assoc, Nat.mul_one]⟩)
      · exact Res.val hR h (TV_pel.2 ⟨hg, b, off, ha, by rw [Nat.add_assoc]⟩)
    · rename_i k' m'' l
      obtain ⟨h0, h1, rfl, rfl, hk⟩ := h
      obtain ⟨b, off, xs, rfl, hl, hcell, hv⟩ := TV_pval.1 hx
      have := hi1 rfl; subst this
      rw [main b _ rfl h0 h1]
      simp only [VR] at hv; subst hv
      refine Res.val hR hk (TV_pval.2 ⟨b, _, [.int k' (l.getD n.toNat 0)], rfl, rfl, fun j hj => ?_, by simp [VR]⟩)
      simp only [AV.size] at hj hcell
      have hj0 : j = 0 := by omega
      subst hj0
      have := hcell n.toNat (by omega)
      rw [Nat.mul_one, Nat.add_zero, this]
      simp [show n.toNat < m'' by omega]
    · exact h.elim
  · cases ht

/-! ### a part of a slice, of an array, of a string -/
def bnd (o : Option AV) (d : Int) (K : Int → Prop) : Prop :=
  match o with
  | none => K d
  | some (.int _ n) => K n
  | some _ => False
def aslc (x : AV) (lo hi : Option AV) (A : Heap) (K : AV → Heap → Prop) : Prop :=
  match x with
  | .nilS => bnd lo 0 fun l => bnd hi 0 fun h => l = 0 ∧ h = 0 ∧ K .nilS A
  | .isl k xs => bnd lo 0 fun l => bnd hi xs.length fun h => 0 ≤ l ∧ l ≤ h ∧ h ≤ xs.length ∧ K (.isl k ((xs.drop l.toNat).take (h.toNat - l.toNat))) A
  | .dsl s xs => bnd lo 0 fun l => bnd hi xs.length fun h => 0 ≤ l ∧ l ≤ h ∧ h ≤ xs.length ∧ K (.dsl s ((xs.drop l.toNat).take (h.toNat - l.toNat))) A
  | .own g i n => bnd lo 0 fun l => bnd hi n fun h => 0 ≤ l ∧ l ≤ h ∧ h ≤ n ∧ K (.own g (i + l.toNat) (h.toNat - l.toNat)) A
  | .asl g o m i n => bnd lo 0 fun l => bnd hi n fun h => 0 ≤ l ∧ l ≤ h ∧ h ≤ n ∧ K (.asl g o m (i + l.toNat) (h.toNat - l.toNat)) A
  | _ => False
theorem TVo_bnd {o : Option AV} {v : Option Value} (hr : (o = none ∧ v = none) ∨ ∃ a c, o = some a ∧ v = some c ∧ TV E a c) {d : Int} {Q : Int → Prop} (h : bnd o d Q) :
    (v = none ∧ Q d) ∨ ∃ k n, v = some (.int k n) ∧ Q n := by
  rcases hr with ⟨rfl, rfl⟩ | ⟨a, c, rfl, rfl, ht⟩
  · exact .inl ⟨rfl, h⟩
  · unfold bnd at h
    split at h
    · rename_i e; cases e
    · rename_i k n e
      injection e with e; subst e
      simp only [TV_int] at ht; subst ht
      exact .inr ⟨k, n, rfl, h⟩
    · exact h.elim
theorem run_bounds {isS : Bool} {len cap : Nat} {lo hi : Option Value} {l h : Int} (h0 : 0 ≤ l) (h1 : l ≤ h) (h2 : h ≤ cap)
    (hlo : (lo = none ∧ l = 0) ∨ ∃ k, lo = some (.int k l)) (hhi : (hi = none ∧ h = len) ∨ ∃ k, hi = some (.int k h)) :
    (Instr.sliceBounds isS len cap lo hi none).run P w = .ok (l.toNat, h.toNat, cap) w := by
  have hh : 0 ≤ h := by omega
  rcases hlo with ⟨rfl, rfl⟩ | ⟨k, rfl⟩ <;> rcases hhi with ⟨rfl, rfl⟩ | ⟨k', rfl⟩ <;>
    simp [Instr.sliceBounds, Instr.sliceBound, asIntOf, *] <;> (intros; omega)

theorem run_bounds3 {isS : Bool} {len cap : Nat} {lo : Option Value} {l h : Int} {k' : IntKind} (h0 : 0 ≤ l) (h1 : l ≤ h) (h2 : h ≤ cap)
    (hlo : (lo = none ∧ l = 0) ∨ ∃ k, lo = some (.int k l)) :
    (Instr.sliceBounds isS len cap lo (some (.int k' h)) (some (.int k' h))).run P w = .ok (l.toNat, h.toNat, h.toNat) w := by
  have hh : 0 ≤ h := by omega
  have hm : ((h.toNat : Nat) : Int) = h := by omega
  rcases hlo with ⟨rfl, rfl⟩ | ⟨k, rfl⟩ <;>
    simp [Instr.sliceBounds, Instr.sliceBound, asIntOf, *] <;> (intros; omega)

/-- The elements' number of cells. -/
def szOK (sz : Nat) (x : AV) (A : Heap) : Prop :=
  match x with
  | .isl _ _ => sz = 1
  | .asl _ _ _ _ _ => sz = 1
  | .dsl s _ => s = sz
  | .own g _ _ => match A g with
    | some (.irow _ _ _) => sz = 1
    | some (.row _ s _) => s = sz
    | _ => False
  | _ => True
theorem slc_ok' {t e : TypeId} {sz : Nat} {x : AV} {c : Value} {lo hi : Option AV} {vlo vhi vmx : Option Value} (hmx : vmx = none ∨ (vmx = vhi ∧ vhi ≠ none ∧ sz ≠ 1)) (hR : Rep E A w) (ht : P.underlying t = some (.slice e)) (hs : (P.info? e).map (·.size) = some sz)
    (hx : TV E x c) (hlo : (lo = none ∧ vlo = none) ∨ ∃ a c, lo = some a ∧ vlo = some c ∧ TV E a c) (hhi : (hi = none ∧ vhi = none) ∨ ∃ a c, hi = some a ∧ vhi = some c ∧ TV E a c)
    (hsz : szOK sz x A)
    (h : aslc x lo hi A K) :
    ResV E A w K ((do pure (Next.value (← Instr.sliceAt t c vlo vhi vmx)) : Sem Next).run P w) := by
  have hsize : (Go.sizeOf e).run P w = .ok sz w := by
    cases hi : P.info? e with
    | none => rw [hi] at hs; simp at hs
    | some j => rw [hi] at hs; simp at hs; subst hs; simp [Go.sizeOf, typeInfo, hi]
  have main : ∀ (a : Option Addr) (len cap : Nat) (l h : Int), len ≤ cap → c = .slice a len cap → 0 ≤ l → l ≤ h → h ≤ len →
      ((vlo = none ∧ l = 0) ∨ ∃ k, vlo = some (.int k l)) → ((vhi = none ∧ h = len) ∨ ∃ k, vhi = some (.int k h)) →
      ∃ m, h.toNat ≤ m ∧ m ≤ cap ∧ (sz = 1 → m = cap) ∧ (do pure (Next.value (← Instr.sliceAt t c vlo vhi vmx)) : Sem Next).run P w = .ok (.value (.slice (if m = l.toNat then a else a.map (·.add (l.toNat * sz))) (h.toNat - l.toNat) (m - l.toNat))) w := by
    rintro a len cap l h hle rfl h0 h1 h2 e1 e2
    rcases hmx with rfl | ⟨hv, hn, h1'⟩
    · have hb := run_bounds (P := P) (w := w) (isS := true) (len := len) (cap := cap) h0 h1 (by omega) e1 e2
      exact ⟨cap, by omega, Nat.le_refl _, fun _ => rfl, by simp [Instr.sliceAt, run_underlying ht, Instr.slice, hb, hsize]⟩
    · rcases e2 with ⟨e2, _⟩ | ⟨k', e2⟩
      · exact absurd e2 hn
      · have hb := run_bounds3 (P := P) (w := w) (isS := true) (len := len) (cap := cap) (k' := k') h0 h1 (by omega) e1
        refine ⟨h.toNat, Nat.le_refl _, by omega, fun e => absurd e h1', ?_⟩
        rw [hv, e2]
        simp [Instr.sliceAt, run_underlying ht, Instr.slice, hb, hsize]
  unfold aslc at h
  split at h
  · simp only [TV_nilS] at hx
    rcases TVo_bnd hlo h with ⟨e1, h⟩ | ⟨k, l, e1, h⟩ <;> rcases TVo_bnd hhi h with ⟨e2, h⟩ | ⟨k', hh, e2, h⟩ <;> obtain ⟨h1, h2, hk⟩ := h
    · obtain ⟨m, m1, m2, m3, em⟩ := main none 0 0 0 0 (by omega) hx (by omega) (by omega) (by omega) (.inl ⟨e1, rfl⟩) (.inl ⟨e2, rfl⟩)
      obtain rfl : m = 0 := by omega
      rw [em]
      exact Res.val hR hk (TV_nilS.2 rfl)
    · subst h2
      obtain ⟨m, m1, m2, m3, em⟩ := main none 0 0 0 0 (by omega) hx (by omega) (by omega) (by omega) (.inl ⟨e1, rfl⟩) (.inr ⟨k', e2⟩)
      obtain rfl : m = 0 := by omega
      rw [em]
      exact Res.val hR hk (TV_nilS.2 rfl)
    · subst h1
      obtain ⟨m, m1, m2, m3, em⟩ := main none 0 0 0 0 (by omega) hx (by omega) (by omega) (by omega) (.inr ⟨k, e1⟩) (.inl ⟨e2, rfl⟩)
      obtain rfl : m = 0 := by omega
      rw [em]
      exact Res.val hR hk (TV_nilS.2 rfl)
    · subst h1; subst h2
      obtain ⟨m, m1, m2, m3, em⟩ := main none 0 0 0 0 (by omega) hx (by omega) (by omega) (by omega) (.inr ⟨k, e1⟩) (.inr ⟨k', e2⟩)
      obtain rfl : m = 0 := by omega
      rw [em]
      exact Res.val hR hk (TV_nilS.2 rfl)
  · rename_i k0 xs
    obtain ⟨a, cap, rfl, hcap, hp⟩ := TV_isl.1 hx
    simp only [szOK] at hsz; subst hsz
    have key : ∀ l h : Int, 0 ≤ l ∧ l ≤ h ∧ h ≤ xs.length ∧ K (.isl k0 ((xs.drop l.toNat).take (h.toNat - l.toNat))) A →
        ((vlo = none ∧ l = 0) ∨ ∃ k, vlo = some (.int k l)) → ((vhi = none ∧ h = xs.length) ∨ ∃ k, vhi = some (.int k h)) →
        ResV E A w K ((do pure (Next.value (← Instr.sliceAt t (.slice a xs.length cap) vlo vhi vmx)) : Sem Next).run P w) := by
      rintro l h ⟨h0, h1, h2, hk⟩ e1 e2
      obtain ⟨mm, m1, m2, m3, em⟩ := main a _ cap l h hcap rfl h0 h1 h2 e1 e2
      rw [em]
      have hlen : ((xs.drop l.toNat).take (h.toNat - l.toNat)).length = h.toNat - l.toNat := by simp; omega
      refine Res.val hR hk (TV_isl.2 ⟨_, _, by rw [hlen], by rw [hlen]; omega, fun hpos => ?_⟩)
      rw [hlen] at hpos
      obtain ⟨b, off, rfl, hc⟩ := hp (by omega)
      refine ⟨b, off + l.toNat, ?_, fun j hj => ?_⟩
      · rw [if_neg (by omega)]; simp [pA_add]
      · rw [hlen] at hj
        have := hc (l.toNat + j) (by omega)
        rw [Nat.add_assoc, this]
        simp [List.getD_eq_getElem?_getD, List.getElem?_take, hj]
    rcases TVo_bnd hlo h with ⟨e1, h⟩ | ⟨k, l, e1, h⟩ <;> rcases TVo_bnd hhi h with ⟨e2, h⟩ | ⟨k', hh, e2, h⟩
    · exact key 0 _ h (.inl ⟨e1, rfl⟩) (.inl ⟨e2, rfl⟩)
    · exact key 0 _ h (.inl ⟨e1, rfl⟩) (.inr ⟨_, e2⟩)
    · exact key _ _ h (.inr ⟨_, e1⟩) (.inl ⟨e2, rfl⟩)
    · exact key _ _ h (.inr ⟨_, e1⟩) (.inr ⟨_, e2⟩)
  · rename_i s0 xs
    obtain ⟨a, cap, rfl, hcap, hp⟩ := TV_dsl.1 hx
    simp only [szOK] at hsz; subst hsz
    have key : ∀ l h : Int, 0 ≤ l ∧ l ≤ h ∧ h ≤ xs.length ∧ K (.dsl s0 ((xs.drop l.toNat).take (h.toNat - l.toNat))) A →
        ((vlo = none ∧ l = 0) ∨ ∃ k, vlo = some (.int k l)) → ((vhi = none ∧ h = xs.length) ∨ ∃ k, vhi = some (.int k h)) →
        ResV E A w K ((do pure (Next.value (← Instr.sliceAt t (.slice a xs.length cap) vlo vhi vmx)) : Sem Next).run P w) := by
      rintro l h ⟨h0, h1, h2, hk⟩ e1 e2
      obtain ⟨mm, m1, m2, m3, em⟩ := main a _ cap l h hcap rfl h0 h1 h2 e1 e2
      rw [em]
      have hlen : ((xs.drop l.toNat).take (h.toNat - l.toNat)).length = h.toNat - l.toNat := by simp; omega
      refine Res.val hR hk (TV_dsl.2 ⟨_, _, by rw [hlen], by rw [hlen]; omega, fun hpos => ?_⟩)
      rw [hlen] at hpos
      obtain ⟨b, off, rfl, hsr⟩ := hp (by omega)
      have hd : ∀ (ys : List AV) (n o : Nat), SR E b s0 o ys → SR E b s0 (o + n * s0) (ys.drop n) := by
        intro ys
        induction ys with
        | nil => intro n o _; simp [SR]
        | cons y r ih =>
          intro n o hh
          cases n with
          | zero => simpa using hh
          | succ n =>
            simp only [SR] at hh
            have := ih n (o + s0) hh.2
            rw [List.drop_succ_cons]
            rw [show o + (n + 1) * s0 = o + s0 + n * s0 by rw [Nat.succ_mul]; omega]
            exact this
      have htk : ∀ (ys : List AV) (n o : Nat), SR E b s0 o ys → SR E b s0 o (ys.take n) := by
        intro ys
        induction ys with
        | nil => intro n o _; simp [SR]
        | cons y r ih =>
          intro n o hh
          cases n with
          | zero => simp [SR]
          | succ n =>
            simp only [SR, List.take_succ_cons] at hh ⊢
            exact ⟨hh.1, ih n _ hh.2⟩
      refine ⟨b, off + l.toNat * s0, ?_, htk _ _ _ (hd _ _ _ hsr)⟩
      rw [if_neg (by omega)]; simp [pA_add]
    rcases TVo_bnd hlo h with ⟨e1, h⟩ | ⟨k, l, e1, h⟩ <;> rcases TVo_bnd hhi h with ⟨e2, h⟩ | ⟨k', hh, e2, h⟩
    · exact key 0 _ h (.inl ⟨e1, rfl⟩) (.inl ⟨e2, rfl⟩)
    · exact key 0 _ h (.inl ⟨e1, rfl⟩) (.inr ⟨_, e2⟩)
    · exact key _ _ h (.inr ⟨_, e1⟩) (.inl ⟨e2, rfl⟩)
    · exact key _ _ h (.inr ⟨_, e1⟩) (.inr ⟨_, e2⟩)
  · rename_i g i n
    obtain ⟨hg, a, cap, rfl, hcap, hroom, hloc⟩ := TV_own.1 hx
    have hsz2 : (E.loc g).sz = sz := by
      simp only [szOK] at hsz
      split at hsz
      · rename_i hA; obtain ⟨h, _⟩ := hR.cont g _ hA; rw [h, hsz]
      · rename_i hA; obtain ⟨h, _⟩ := hR.cont g _ hA; rw [h, hsz]
      · exact hsz.elim
    have key : ∀ l h : Int, 0 ≤ l ∧ l ≤ h ∧ h ≤ n ∧ K (.own g (i + l.toNat) (h.toNat - l.toNat)) A →
        ((vlo = none ∧ l = 0) ∨ ∃ k, vlo = some (.int k l)) → ((vhi = none ∧ h = n) ∨ ∃ k, vhi = some (.int k h)) →
        ResV E A w K ((do pure (Next.value (← Instr.sliceAt t (.slice a n cap) vlo vhi vmx)) : Sem Next).run P w) := by
      rintro l h ⟨h0, h1, h2, hk⟩ e1 e2
      obtain ⟨mm, m1, m2, m3, em⟩ := main a _ cap l h hcap rfl h0 h1 h2 e1 e2
      rw [em]
      refine Res.val hR hk (TV_own.2 ⟨hg, _, _, rfl, by omega, by omega, ?_⟩)
      by_cases he : mm = l.toNat
      · exact .inl (by omega)
      · rcases hloc with rfl | ⟨b, off, ha, rfl⟩
        · omega
        · refine .inr ⟨b, off, ha, ?_⟩
          rw [if_neg he, hsz2]; simp [pA_add, Nat.add_mul, Nat.add_assoc]
    rcases TVo_bnd hlo h with ⟨e1, h⟩ | ⟨k, l, e1, h⟩ <;> rcases TVo_bnd hhi h with ⟨e2, h⟩ | ⟨k', hh, e2, h⟩
    · exact key 0 _ h (.inl ⟨e1, rfl⟩) (.inl ⟨e2, rfl⟩)
    · exact key 0 _ h (.inl ⟨e1, rfl⟩) (.inr ⟨_, e2⟩)
    · exact key _ _ h (.inr ⟨_, e1⟩) (.inl ⟨e2, rfl⟩)
    · exact key _ _ h (.inr ⟨_, e1⟩) (.inr ⟨_, e2⟩)
  · rename_i g o m i n
    obtain ⟨hg, him, a, rfl, hloc⟩ := TV_asl.1 hx
    simp only [szOK] at hsz; subst hsz
    have key : ∀ l h : Int, 0 ≤ l ∧ l ≤ h ∧ h ≤ n ∧ K (.asl g o m (i + l.toNat) (h.toNat - l.toNat)) A →
        ((vlo = none ∧ l = 0) ∨ ∃ k, vlo = some (.int k l)) → ((vhi = none ∧ h = n) ∨ ∃ k, vhi = some (.int k h)) →
        ResV E A w K ((do pure (Next.value (← Instr.sliceAt t (.slice a n (m - i)) vlo vhi vmx)) : Sem Next).run P w) := by
      rintro l h ⟨h0, h1, h2, hk⟩ e1 e2
      obtain ⟨mm, m1, m2, m3, em⟩ := main a _ (m - i) l h (by omega) rfl h0 h1 h2 e1 e2
      rw [em]
      have m4 : mm = m - i := m3 rfl
      subst m4
      refine Res.val hR hk (TV_asl.2 ⟨hg, by omega, _, by rw [Nat.sub_sub], ?_⟩)
      by_cases he : m - i = l.toNat
      · exact .inl (by omega)
      · rcases hloc with rfl | ⟨b, off, ha, rfl⟩
        · omega
        · refine .inr ⟨b, off, ha, ?_⟩
          rw [if_neg he]; simp [pA_add, Nat.add_assoc]
    rcases TVo_bnd hlo h with ⟨e1, h⟩ | ⟨k, l, e1, h⟩ <;> rcases TVo_bnd hhi h with ⟨e2, h⟩ | ⟨k', hh, e2, h⟩
    · exact key 0 _ h (.inl ⟨e1, rfl⟩) (.inl ⟨e2, rfl⟩)
    · exact key 0 _ h (.inl ⟨e1, rfl⟩) (.inr ⟨_, e2⟩)
    · exact key _ _ h (.inr ⟨_, e1⟩) (.inl ⟨e2, rfl⟩)
    · exact key _ _ h (.inr ⟨_, e1⟩) (.inr ⟨_, e2⟩)
  · exact h.elim
theorem slc_ok {t e : TypeId} {sz : Nat} {x : AV} {c : Value} {lo hi : Option AV} {vlo vhi : Option Value} (hR : Rep E A w) (ht : P.underlying t = some (.slice e)) (hs : (P.info? e).map (·.size) = some sz)
    (hx : TV E x c) (hlo : (lo = none ∧ vlo = none) ∨ ∃ a c, lo = some a ∧ vlo = some c ∧ TV E a c) (hhi : (hi = none ∧ vhi = none) ∨ ∃ a c, hi = some a ∧ vhi = some c ∧ TV E a c)
    (hsz : szOK sz x A)
    (h : aslc x lo hi A K) :
    ResV E A w K ((do pure (Next.value (← Instr.sliceAt t c vlo vhi none)) : Sem Next).run P w) := slc_ok' (.inl rfl) hR ht hs hx hlo hhi hsz h
end
end AVL

/- Slices of arrays, arrays of slices, make, slice literals, conversions, equality. -/
namespace AVL
open Go
set_option linter.unusedSimpArgs false
set_option linter.unusedVariables false

section
variable {P : Program} {w : World} {E : Emb} {A : Heap} {K : AV → Heap → Prop}

/-- A slice of an array of whole numbers, behind its address. -/
def aslcA (m : Nat) (x : AV) (lo hi : Option AV) (A : Heap) (K : AV → Heap → Prop) : Prop :=
  match x with
  | .ptr g o => bnd lo 0 fun l => bnd hi m fun h => 0 ≤ l ∧ l ≤ h ∧ h ≤ m ∧ K (.asl g o m l.toNat (h.toNat - l.toNat)) A
  | .pval (.iarr k m' xs) => m' = m ∧ xs.length = m ∧ (bnd lo 0 fun l => bnd hi m fun h => 0 ≤ l ∧ l ≤ h ∧ h ≤ m ∧ K (.isl k ((xs.drop l.toNat).take (h.toNat - l.toNat))) A)
  | _ => False
/-- The number of elements of an array of whole numbers. -/
def intArr (P : Program) (t : TypeId) : Option Nat :=
  match P.underlying t with
  | some (.array m e) => match P.underlying e, P.info? e with
    | some (.int _), some j => if j.size = 1 then some m else none
    | _, _ => none
  | _ => none
theorem slcA_ok {t : TypeId} {m : Nat} {x : AV} {c : Value} {lo hi : Option AV} {vlo vhi : Option Value} (hR : Rep E A w) (ht : intArr P t = some m)
    (hx : TV E x c) (hlo : (lo = none ∧ vlo = none) ∨ ∃ a c, lo = some a ∧ vlo = some c ∧ TV E a c) (hhi : (hi = none ∧ vhi = none) ∨ ∃ a c, hi = some a ∧ vhi = some c ∧ TV E a c)
    (h : aslcA m x lo hi A K) :
    ResV E A w K ((do pure (Next.value (← Instr.sliceAt t c vlo vhi none)) : Sem Next).run P w) := by
  unfold intArr at ht
  split at ht
  · rename_i m' e hu
    split at ht
    · rename_i j _ hi'
      split at ht
      · rename_i hj
        injection ht with ht; subst ht
        have hsize : (Go.sizeOf e).run P w = .ok 1 w := by simp [Go.sizeOf, typeInfo, hi', hj]
        have main : ∀ (b off : Nat) (l h : Int), c = .pointer (some (pA b off)) → 0 ≤ l → l ≤ h → h ≤ m' →
            ((vlo = none ∧ l = 0) ∨ ∃ k, vlo = some (.int k l)) → ((vhi = none ∧ h = m') ∨ ∃ k, vhi = some (.int k h)) →
            (do pure (Next.value (← Instr.sliceAt t c vlo vhi none)) : Sem Next).run P w = .ok (.value (.slice (some (if m' = l.toNat then pA b off else pA b (off + l.toNat))) (h.toNat - l.toNat) (m' - l.toNat))) w := by
          rintro b off l h rfl h0 h1 h2 e1 e2
          have hb := run_bounds (P := P) (w := w) (isS := false) (len := m') (cap := m') h0 h1 (by omega) e1 e2
          simp [Instr.sliceAt, run_underlying hu, Instr.sureAddr, hb, hsize, pA_add]
        unfold aslcA at h
        split at h
        · rename_i g o
          obtain ⟨hg, b, off, ha, rfl⟩ := TV_ptr.1 hx
          have key : ∀ l h : Int, 0 ≤ l ∧ l ≤ h ∧ h ≤ m' ∧ K (.asl g o m' l.toNat (h.toNat - l.toNat)) A →
              ((vlo = none ∧ l = 0) ∨ ∃ k, vlo = some (.int k l)) → ((vhi = none ∧ h = m') ∨ ∃ k, vhi = some (.int k h)) →
              ResV E A w K ((do pure (Next.value (← Instr.sliceAt t (.pointer (some (pA b (off + o)))) vlo vhi none)) : Sem Next).run P w) := by
            rintro l h ⟨h0, h1, h2, hk⟩ e1 e2
            rw [main b _ l h rfl h0 h1 h2 e1 e2]
            refine Res.val hR hk (TV_asl.2 ⟨hg, by omega, _, rfl, ?_⟩)
            by_cases he : m' = l.toNat
            · exact .inl he
            · exact .inr ⟨b, off, ha, by rw [if_neg he]⟩
          rcases TVo_bnd hlo h with ⟨e1, h⟩ | ⟨k, l, e1, h⟩ <;> rcases TVo_bnd hhi h with ⟨e2, h⟩ | ⟨k', hh, e2, h⟩
          · exact key 0 _ h (.inl ⟨e1, rfl⟩) (.inl ⟨e2, rfl⟩)
          · exact key 0 _ h (.inl ⟨e1, rfl⟩) (.inr ⟨_, e2⟩)
          · exact key _ _ h (.inr ⟨_, e1⟩) (.inl ⟨e2, rfl⟩)
          · exact key _ _ h (.inr ⟨_, e1⟩) (.inr ⟨_, e2⟩)
        · rename_i k0 m'' xs
          obtain ⟨b, off, cs, rfl, hl, hcell, hv⟩ := TV_pval.1 hx
          obtain ⟨rfl, hxl, h⟩ := h
          simp only [VR] at hv; subst hv
          simp only [AV.size] at hcell hl
          have key : ∀ l h : Int, 0 ≤ l ∧ l ≤ h ∧ h ≤ m'' ∧ K (.isl k0 ((xs.drop l.toNat).take (h.toNat - l.toNat))) A →
              ((vlo = none ∧ l = 0) ∨ ∃ k, vlo = some (.int k l)) → ((vhi = none ∧ h = m'') ∨ ∃ k, vhi = some (.int k h)) →
              ResV E A w K ((do pure (Next.value (← Instr.sliceAt t (.pointer (some (pA b off))) vlo vhi none)) : Sem Next).run P w) := by
            rintro l h ⟨h0, h1, h2, hk⟩ e1 e2
            rw [main b _ l h rfl h0 h1 h2 e1 e2]
            have hlen : ((xs.drop l.toNat).take (h.toNat - l.toNat)).length = h.toNat - l.toNat := by simp; omega
            refine Res.val hR hk (TV_isl.2 ⟨_, _, by rw [hlen], by rw [hlen]; omega, fun hpos => ?_⟩)
            rw [hlen] at hpos
            refine ⟨b, off + l.toNat, by rw [if_neg (by omega)], fun j hj => ?_⟩
            rw [hlen] at hj
            have := hcell (l.toNat + j) (by omega)
            rw [Nat.add_assoc, this]
            rw [List.getElem?_map, List.getElem?_range (by omega)]
            simp [List.getD_eq_getElem?_getD, List.getElem?_take, hj]
          rcases TVo_bnd hlo h with ⟨e1, h⟩ | ⟨k, l, e1, h⟩ <;> rcases TVo_bnd hhi h with ⟨e2, h⟩ | ⟨k', hh, e2, h⟩
          · exact key 0 _ h (.inl ⟨e1, rfl⟩) (.inl ⟨e2, rfl⟩)
          · exact key 0 _ h (.inl ⟨e1, rfl⟩) (.inr ⟨_, e2⟩)
          · exact key _ _ h (.inr ⟨_, e1⟩) (.inl ⟨e2, rfl⟩)
          · exact key _ _ h (.inr ⟨_, e1⟩) (.inr ⟨_, e2⟩)
        · exact h.elim
      · cases ht
    · cases ht
  · cases ht

/-- The array that a slice's first elements are. -/
def as2a (m : Nat) (x : AV) (A : Heap) (K : AV → Heap → Prop) : Prop :=
  0 < m ∧ match x with
  | .isl k l => m ≤ l.length ∧ K (.pval (.iarr k m (l.take m))) A
  | .own g i n => m ≤ n ∧ K (.pel g i 0) A
  | .asl g o m' i n => m ≤ n ∧ K (.pix g o m' i) A
  | _ => False
theorem s2a_ok {t : TypeId} {m : Nat} {x : AV} {c : Value} (hR : Rep E A w) (ht : intArr P t = some m) (hx : TV E x c) (h : as2a m x A K) :
    ResV E A w K ((do pure (Next.value (← Instr.arrayAt t c)) : Sem Next).run P w) := by
  unfold intArr at ht
  split at ht
  · rename_i m' e hu
    have hm : m' = m := by
      split at ht
      · split at ht
        · injection ht
        · cases ht
      · cases ht
    subst hm
    have main : ∀ (b off len cap : Nat), c = .slice (some (pA b off)) len cap → m' ≤ len →
        (do pure (Next.value (← Instr.arrayAt t c)) : Sem Next).run P w = .ok (.value (.pointer (some (pA b off)))) w := by
      rintro b off len cap rfl h1
      simp [Instr.arrayAt, run_underlying hu, show ¬ len < m' by omega]
    unfold as2a at h
    obtain ⟨hpos, h⟩ := h
    split at h
    · rename_i k l
      obtain ⟨hle, hk⟩ := h
      obtain ⟨a, cap, rfl, hcap, hp⟩ := TV_isl.1 hx
      obtain ⟨b, off, rfl, hc⟩ := hp (by omega)
      rw [main b off _ _ rfl hle]
      refine Res.val hR hk (TV_pval.2 ⟨b, off, (List.range m').map (fun j => .int k ((l.take m').getD j 0)), rfl, by simp [AV.size], fun j hj => ?_, by simp only [VR]⟩)
      simp only [AV.size] at hj
      rw [hc j (by omega), List.getElem?_map, List.getElem?_range hj]
      simp [List.getD_eq_getElem?_getD, List.getElem?_take, hj]
    · obtain ⟨hle, hk⟩ := h
      obtain ⟨hg, a, cap, rfl, hcap, hroom, hloc⟩ := TV_own.1 hx
      rcases hloc with rfl | ⟨b, off, ha, rfl⟩
      · omega
      rw [main b _ _ _ rfl hle]
      exact Res.val hR hk (TV_pel.2 ⟨hg, b, off, ha, rfl⟩)
    · obtain ⟨hle, hk⟩ := h
      obtain ⟨hg, him, a, rfl, hloc⟩ := TV_asl.1 hx
      rcases hloc with rfl | ⟨b, off, ha, rfl⟩
      · omega
      rw [main b _ _ _ rfl hle]
      exact Res.val hR hk (TV_pix.2 ⟨hg, by omega, b, off, ha, rfl⟩)
    · exact h.elim
  · cases ht

/-! ### make([]T, n), whole numbers -/
def amkI (e : TypeId) (k : IntKind) (bytes : Nat) (l c : AV) (A : Heap) (K : AV → Heap → Prop) : Prop :=
  match l, c with
  | .int _ n, .int _ m => n = m ∧ 0 ≤ n ∧ n * bytes ≤ 140737488355328 ∧ ∀ g, A g = none → K (.own g 0 n.toNat) (A.set g (.irow e k (List.replicate n.toNat 0)))
  | _, _ => False
def amk (e : TypeId) (sz bytes : Nat) (z : AV) (l c : AV) (A : Heap) (K : AV → Heap → Prop) : Prop :=
  match l, c with
  | .int _ n, .int _ m => n = m ∧ 0 ≤ n ∧ n * bytes ≤ 140737488355328 ∧ ∀ g, A g = none → K (.own g 0 n.toNat) (A.set g (.row e sz (List.replicate n.toNat z)))
  | _, _ => False
theorem VRe_replicate {sz : Nat} {z : AV} {cs : List Value} (hl : cs.length = sz) (hv : VR E z cs) : ∀ n : Nat, VRe E sz (List.replicate n z) (List.replicate n cs).flatten
  | 0 => rfl
  | n + 1 => by
    rw [List.replicate_succ, List.replicate_succ, List.flatten_cons]
    exact ⟨cs, _, rfl, hl, hv, VRe_replicate hl hv n⟩
theorem flatten_get {cs : List Value} : ∀ (n i : Nat), i < n * cs.length → (List.replicate n cs).flatten[i]? = cs[i % cs.length]?
  | 0, i, h => by simp at h
  | n + 1, i, h => by
    rw [List.replicate_succ, List.flatten_cons]
    by_cases hi : i < cs.length
    · rw [List.getElem?_append_left hi, Nat.mod_eq_of_lt hi]
    · rw [List.getElem?_append_right (by omega), flatten_get n _ (by rw [Nat.succ_mul] at h; omega)]
      congr 1
      rw [← Nat.sub_add_cancel (show cs.length ≤ i by omega), Nat.add_mod_right, Nat.sub_add_cancel (by omega)]
theorem mk_gen {t e : TypeId} {i : TypeInfo} {zv : Value} {z : AV} (hR : Rep E A w) (ht : P.underlying t = some (.slice e)) (hi : P.info? e = some i) (hz : i.zero = some zv) (hzs : zv.cells.size = i.size)
    (hzv : VR E z zv.cells.toList) (hsz : 0 < i.size) {c d : Value} {n : Int} {k k' : IntKind} (hc : c = .int k n) (hd : d = .int k' n) (h0 : 0 ≤ n) (hb : n * i.bytes ≤ 140737488355328) (hby : 0 < i.bytes)
    (h : ∀ g, A g = none → K (.own g 0 n.toNat) (A.set g (.row e i.size (List.replicate n.toNat z)))) :
    Res E w K ((do pure (Next.value (← Instr.makeSlice t c d)) : Sem Next).run P w) := by
  subst hc; subst hd
  have hn : n ≤ 140737488355328 := by
    have : n * 1 ≤ n * i.bytes := Int.mul_le_mul_of_nonneg_left (by omega) h0
    omega
  have hrun := run_make (P := P) w t e i zv ht hi hz k k' n n h0 (Int.le_refl _) (by rw [Int.mul_comm]; omega) (by omega)
  have hll := VRe_len (VRe_replicate (by simpa using hzs) hzv n.toNat)
  simp only [List.length_replicate] at hll
  simp only [Sem.run_bind, hrun, Result.andThen_ok, Sem.run_pure]
  obtain ⟨hR2, hT⟩ := new_row hR (e := e) (VRe_replicate (by simpa using hzs) hzv n.toNat) (w1 := w) rfl (C := madeCells zv.cells (n.toNat * i.size)) (cap := n.toNat) (by simp) (by simp [madeCells]) (fun j hj => by
    rw [hll] at hj
    rw [flatten_get _ _ (by simpa [hzs] using hj)]
    have hlt : j % zv.cells.size < zv.cells.size := Nat.mod_lt _ (by omega)
    simp [madeCells, hj, hlt])
  simp only [List.length_replicate] at hT
  exact ⟨_, _, _, _, h _ hR.fresh, hR2, E.push_le _, Same.alloc _ _, .inl ⟨_, rfl, hT⟩⟩

/-- An element type: its number of cells, of bytes, its zero value as one abstract value. -/
def elOf (P : Program) (e : TypeId) : Option (Nat × Nat × AV) :=
  match P.info? e, shOf P e, zeroOf P e with
  | some i, some (sh, _), some l => match shp sh l, i.zero with
    | some z, some zv => if zv.cells.size = i.size ∧ 0 < i.size ∧ 0 < i.bytes then some (i.size, i.bytes, z) else none
    | _, _ => none
  | _, _, _ => none
theorem elOf_ok {e : TypeId} {sz bytes : Nat} {z : AV} (h : elOf P e = some (sz, bytes, z)) :
    ∃ i zv, P.info? e = some i ∧ i.size = sz ∧ i.bytes = bytes ∧ i.zero = some zv ∧ zv.cells.size = i.size ∧ 0 < i.size ∧ 0 < i.bytes ∧ ∀ E, VR E z zv.cells.toList := by
  unfold elOf at h
  split at h
  · rename_i i sh sz' l hi hs hz
    split at h
    · rename_i z' zv hz' hzv
      split at h
      · rename_i hh
        injection h with h; injection h with e1 e2; injection e2 with e2 e3; subst e1; subst e2; subst e3
        refine ⟨i, zv, hi, rfl, rfl, hzv, hh.1, hh.2.1, hh.2.2, fun E => ?_⟩
        obtain ⟨zv', hr, hv⟩ := zeroOf_ok (w := default) (E := E) hz
        have : zv' = zv := by
          simp [zeroValue, typeInfo, hi, hzv] at hr
          exact hr.symm
        subst this
        exact comps_VR (shp_comps hv hz')
      · cases h
    · cases h
  · cases h
def intK (P : Program) (e : TypeId) : Option IntKind := match P.underlying e with | some (.int k) => some k | _ => none

theorem mk_ok {t e : TypeId} {sz bytes : Nat} {z l c : AV} {vl vc : Value} (hR : Rep E A w) (ht : P.underlying t = some (.slice e)) (he : elOf P e = some (sz, bytes, z))
    (hl : TV E l vl) (hc : TV E c vc) (h : amk e sz bytes z l c A K) :
    Res E w K ((do pure (Next.value (← Instr.makeSlice t vl vc)) : Sem Next).run P w) := by
  obtain ⟨i, zv, hi, rfl, rfl, hz, hzs, hp, hby, hv⟩ := elOf_ok he
  unfold amk at h
  split at h
  · obtain ⟨rfl, h0, hb, hk⟩ := h
    simp only [TV_int] at hl hc
    exact mk_gen hR ht hi hz hzs (hv E) hp hl hc h0 hb hby hk
  · exact h.elim
theorem mkI_ok {t e : TypeId} {bytes : Nat} {k : IntKind} {l c : AV} {vl vc : Value} (hR : Rep E A w) (ht : P.underlying t = some (.slice e)) (he : elOf P e = some (1, bytes, .int k 0))
    (hl : TV E l vl) (hc : TV E c vc) (h : amkI e k bytes l c A K) :
    Res E w K ((do pure (Next.value (← Instr.makeSlice t vl vc)) : Sem Next).run P w) := by
  refine Res.irow (e := e) (k := k) (mk_ok hR ht he hl hc ?_)
  unfold amkI at h
  unfold amk
  split at h
  · obtain ⟨h1, h0, hb, hk⟩ := h
    exact ⟨h1, h0, hb, fun g hg => ⟨A, g, _, by rw [List.map_replicate], hk g hg⟩⟩
  · exact h.elim

/-! ### slice literals -/
def fillAll (env : AEnv) (sh : Sh) (sz : Nat) : List AO → Option (List AV)
  | [] => some []
  | x :: r => if good (ev env x) = true ∧ AV.sizes (comps (ev env x)) = sz then
      match shp sh (comps (ev env x)), fillAll env sh sz r with
      | some v, some l => some (v :: l)
      | _, _ => none
    else none
def trList : Nat → List (Nat × Operand) → Option (List AO)
  | _, [] => some []
  | n, (i, x) :: r => if i = n then match trO x, trList (n + 1) r with
      | some a, some l => some (a :: l)
      | _, _ => none
    else none
theorem fillAll_ok {env : AEnv} {a : Act} {sh : Sh} {sz : Nat} (he : EnvR E env a) : ∀ (ps : List (Nat × Operand)) (n : Nat) (xs : List AO) (l : List AV) (cells : Array Value) (pre : List Value), trList n ps = some xs → fillAll env sh sz xs = some l →
    pre.length = n * sz → cells.toList.take (n * sz) = pre → (n + ps.length) * sz ≤ cells.size →
    ∃ cs, VRe E sz l cs ∧ Instr.fill (fun i => some (i * sz, sz)) cells (ps.map fun p => (p.1, a.eval p.2)) = some (pre ++ cs ++ cells.toList.drop ((n + ps.length) * sz)).toArray
  | [], n, xs, l, cells, pre, ht, hf, hl, htk, hle => by
    simp only [trList] at ht; injection ht with ht; subst ht
    simp only [fillAll] at hf; injection hf with hf; subst hf
    refine ⟨[], rfl, ?_⟩
    simp only [List.map_nil, Instr.fill, List.length_nil, Nat.add_zero, List.append_nil, ← htk, List.take_append_drop, Array.toArray_toList]
  | (i, x) :: ps, n, xs, l, cells, pre, ht, hf, hl, htk, hle => by
    simp only [trList] at ht
    split at ht
    · rename_i e; subst e
      split at ht
      · rename_i ax ys hx hr
        injection ht with ht; subst ht
        simp only [fillAll] at hf
        split at hf
        · rename_i hg
          split at hf
          · rename_i v l' hv hl'
            injection hf with hf; subst hf
            have hc := comps_ok hg.1 (ev_ok he hx)
            have hlen := VRs_len _ _ hc
            rw [hg.2] at hlen
            simp only [List.length_cons] at hle
            have hm : (i + 1) * sz ≤ (i + (ps.length + 1)) * sz := Nat.mul_le_mul_right _ (by omega)
            have hi1 : (i + 1) * sz = i * sz + sz := Nat.succ_mul _ _
            simp only [List.map_cons]
            rw [fill_cons (off := i * sz) (sz := sz) rfl (by simpa using hlen) (by omega)]
            have hpl : cells.toList.length = cells.size := Array.length_toList
            obtain ⟨cs, hcs, hfill⟩ := fillAll_ok he ps (i + 1) ys l' ((cells.toList.take (i * sz) ++ ((a.eval x).cells.toList ++ cells.toList.drop (i * sz + sz))).toArray) (pre ++ (a.eval x).cells.toList) hr hl'
              (by rw [List.length_append, hl, hlen, hi1]) (by
                rw [htk, ← List.append_assoc]
                exact List.take_left' (by rw [List.length_append, hl, hlen, hi1])) (by
                simp only [List.size_toArray, List.length_append, List.length_take, List.length_drop, hlen, hpl]
                rw [show i + 1 + ps.length = i + (ps.length + 1) by omega]
                omega)
            refine ⟨(a.eval x).cells.toList ++ cs, ⟨_, cs, rfl, hlen, comps_VR (shp_comps hc hv), hcs⟩, ?_⟩
            have hD : List.drop ((i + 1 + ps.length) * sz) (List.take (i * sz) cells.toList ++ ((a.eval x).cells.toList ++ List.drop (i * sz + sz) cells.toList)).toArray.toList = cells.toList.drop ((i + (ps.length + 1)) * sz) := by
              have e1 : (i + 1 + ps.length) * sz = (i + (ps.length + 1)) * sz := by congr 1; omega
              rw [e1, htk]
              show List.drop _ (pre ++ ((a.eval x).cells.toList ++ List.drop (i * sz + sz) cells.toList)) = _
              rw [← List.append_assoc, List.drop_append, List.drop_of_length_le (by rw [List.length_append, hl, hlen]; omega), List.nil_append, List.drop_drop]
              congr 1
              rw [List.length_append, hl, hlen]
              omega
            rw [hfill, hD]
            simp [List.append_assoc]
          · cases hf
        · cases hf
      · cases ht
    · cases ht

def abslI (e : TypeId) (k : IntKind) (xs : List AO) (env : AEnv) (A : Heap) (K : AV → Heap → Prop) : Prop :=
  match fillAll env .sc 1 xs with
  | some l => match intsOf k l with
    | some ys => ∀ g, A g = none → K (.own g 0 xs.length) (A.set g (.irow e k ys))
    | none => False
  | none => False
def absl (e : TypeId) (sh : Sh) (sz : Nat) (xs : List AO) (env : AEnv) (A : Heap) (K : AV → Heap → Prop) : Prop :=
  match fillAll env sh sz xs with
  | some l => ∀ g, A g = none → K (.own g 0 xs.length) (A.set g (.row e sz l))
  | none => False
theorem fillAll_length {env : AEnv} {sh : Sh} {sz : Nat} : ∀ {xs : List AO} {l : List AV}, fillAll env sh sz xs = some l → l.length = xs.length
  | [], l, h => by simp only [fillAll] at h; injection h with h; subst h; rfl
  | x :: r, l, h => by
    simp only [fillAll] at h
    split at h
    · split at h
      · rename_i v l' _ h2
        injection h with h; subst h
        simp [fillAll_length h2]
      · cases h
    · cases h
theorem trList_length : ∀ {n : Nat} {ps : List (Nat × Operand)} {xs : List AO}, trList n ps = some xs → xs.length = ps.length
  | _, [], xs, h => by simp only [trList] at h; injection h with h; subst h; rfl
  | n, (i, x) :: r, xs, h => by
    simp only [trList] at h
    split at h
    · split at h
      · rename_i a l _ h2
        injection h with h; subst h
        simp [trList_length h2]
      · cases h
    · cases h
theorem bsl_ok {t e : TypeId} {sh : Sh} {sz bytes len : Nat} {z : AV} {ps : Array (Nat × Operand)} {xs : List AO} {env : AEnv} {a : Act} (hR : Rep E A w) (he : EnvR E env a) (ht : P.underlying t = some (.slice e))
    (hel : elOf P e = some (sz, bytes, z)) (hx : trList 0 ps.toList = some xs) (hlen : ps.size = len) (hmax : len * sz ≤ 2 ^ 24) (h : absl e sh sz xs env A K) :
    Res E w K ((do pure (Next.value (← Instr.buildSlice t len (ps.map fun (i, x) => (i, a.eval x)))) : Sem Next).run P w) := by
  obtain ⟨i, zv, hi, rfl, rfl, hz, hzs, hp, hby, hv⟩ := elOf_ok hel
  unfold absl at h
  split at h
  · rename_i l hl
    have hll := fillAll_length hl
    have hxl := trList_length hx
    simp only [Array.length_toList, hlen] at hxl
    have hsize : (Go.sizeOf e).run P w = .ok i.size w := by simp [Go.sizeOf, typeInfo, hi]
    have hmax' : ¬ (16777216 < len * i.size) := by omega
    have main : ∀ z0 : Array Value, ∃ cs, VRe E i.size l cs ∧ Instr.fill (fun j => some (j * i.size, i.size)) ((Array.range (len * i.size)).map (z0[· % z0.size]!)) ((ps.map fun (i, x) => (i, a.eval x)).toList) = some cs.toArray := by
      intro z0
      obtain ⟨cs, hcs, hf⟩ := fillAll_ok he ps.toList 0 xs l ((Array.range (len * i.size)).map (z0[· % z0.size]!)) [] hx hl (by simp) (by simp) (by simp [hlen])
      refine ⟨cs, hcs, ?_⟩
      rw [Array.toList_map, hf]
      congr 2
      simp [hlen]
    have hrun : ∃ cs, VRe E i.size l cs ∧ (Instr.buildSlice t len (ps.map fun (i, x) => (i, a.eval x))).run P w = .ok (.slice (some (pA w.heap.size 0)) len len) (w.alloc (.cells cs.toArray e)) := by
      by_cases h0 : len * i.size = 0
      · obtain ⟨cs, hcs, hf⟩ := main #[]
        refine ⟨cs, hcs, ?_⟩
        simp only [Instr.buildSlice, run_underlying ht, Sem.run_bind, Result.andThen_ok, hsize, h0, if_true, Sem.run_pure]
        simp only [h0] at hf
        simp only [show ¬ (0 > 2 ^ 24) by omega, if_false, Sem.run_bind, Sem.run_pure, Result.andThen_ok, hf]
        rfl
      · obtain ⟨cs, hcs, hf⟩ := main zv.cells
        refine ⟨cs, hcs, ?_⟩
        have hzr : (zeroValue e).run P w = .ok zv w := by simp [zeroValue, typeInfo, hi, hz]
        simp only [Instr.buildSlice, run_underlying ht, Sem.run_bind, Result.andThen_ok, hsize, h0, if_false, Sem.run_pure, hzr]
        simp only [show ¬ (len * i.size > 2 ^ 24) by omega, if_false, Sem.run_bind, hzr, Sem.run_pure, Result.andThen_ok, hf]
        rfl
    obtain ⟨cs, hcs, hrun⟩ := hrun
    simp only [Sem.run_bind, hrun, Result.andThen_ok, Sem.run_pure]
    have hcl := VRe_len hcs
    obtain ⟨hR2, hT⟩ := new_row hR (e := e) hcs (w1 := w) rfl (C := cs.toArray) (cap := len) (by omega) (by simp [hcl, hll, hxl]) (fun j hj => by simp)
    rw [hll, hxl] at hT
    rw [hxl] at h
    exact ⟨_, _, _, _, h _ hR.fresh, hR2, E.push_le _, Same.alloc _ _, .inl ⟨_, rfl, hT⟩⟩
  · exact h.elim
end
end AVL

/- Equality; small operations. -/
namespace AVL
open Go
set_option linter.unusedSimpArgs false
set_option linter.unusedVariables false

/-- How values of a type are held against each other. -/
inductive ET where
  | scI
  | scB
  | scS
  | ia (n : Nat)
  | st (fs : List (Nat × Nat × Sh × ET))
  | ar (n sz : Nat) (sh : Sh) (t : ET)

def eqI (n : Nat) (a b : List Int) : Bool := (List.range n).all fun j => decide (a.getD j 0 = b.getD j 0)
theorem eqI_iff {n : Nat} {a b : List Int} (ha : a.length = n) (hb : b.length = n) : eqI n a b = decide (a = b) := by
  rw [Bool.eq_iff_iff]
  simp only [eqI, List.all_eq_true, List.mem_range, decide_eq_true_eq]
  constructor
  · intro h
    apply List.ext_getElem (by omega)
    intro i h1 h2
    have := h i (by omega)
    simpa [List.getD_eq_getElem?_getD, h1, h2] using this
  · rintro rfl j _; rfl

mutual
def eqV : ET → AV → AV → Option Bool
  | .scI, x, y => match x, y with
    | .int k a, .int k' b => if k = k' then some (decide (a = b)) else none
    | _, _ => none
  | .scB, x, y => match x, y with
    | .bool a, .bool b => some (a == b)
    | _, _ => none
  | .scS, x, y => match x, y with
    | .str a, .str b => some (decide (a.toList = b.toList))
    | _, _ => none
  | .ia n, x, y => match x, y with
    | .iarr k m a, .iarr k' m' b => if k = k' ∧ m = n ∧ m' = n then some (eqI n a b) else none
    | _, _ => none
  | .st fs, x, y => match x, y with
    | .agg a, .agg b => eqF fs a b
    | _, _ => none
  | .ar _ _ _ _, _, _ => none
def eqF : List (Nat × Nat × Sh × ET) → List AV → List AV → Option Bool
  | [], _, _ => some true
  | (off, sz, sh, t) :: r, a, b => match getC a off sz sh, getC b off sz sh with
    | some x, some y => match eqV t x y, eqF r a b with
      | some p, some q => some (p && q)
      | _, _ => none
    | _, _ => none
end

mutual
def ET.rk : ET → Nat
  | .scI => 1
  | .scB => 1
  | .scS => 1
  | .ia _ => 2
  | .st fs => ET.rkF fs + 1
  | .ar _ _ _ t => t.rk + 1
def ET.rkF : List (Nat × Nat × Sh × ET) → Nat
  | [] => 1
  | (_, _, _, t) :: r => t.rk + ET.rkF r
end
mutual
/-- The tree fits the type. -/
def etOK (P : Program) : ET → TypeId → Bool
  | .scI, t => match P.underlying t with | some (.int _) => true | _ => false
  | .scB, t => match P.underlying t with | some .bool => true | _ => false
  | .scS, t => match P.underlying t with | some .string => true | _ => false
  | .ia n, t => match P.underlying t with
    | some (.array m e) => m == n && (match P.underlying e, P.info? e with | some (.int _), some j => j.size == 1 | _, _ => false)
    | _ => false
  | .st fs, t => (match P.underlying t with
    | some (.struct gs) => !P.stoodInHeld t && etFs P fs gs.toList
    | _ => false)
  | .ar _ _ _ _, _ => false
def etFs (P : Program) : List (Nat × Nat × Sh × ET) → List Field → Bool
  | [], [] => true
  | (off, sz, sh, et) :: r, f :: gs => f.name != "_" && f.offset == off && shOf P f.type == some (sh, sz) && etOK P et f.type && etFs P r gs
  | _, _ => false
end

section
variable {P : Program} {w : World} {E : Emb} {A : Heap} {K : AV → Heap → Prop}

theorem run_eqItems_ints {e : TypeId} {q : IntKind} (he : P.underlying e = some (.int q)) (h1 : P.cellsOf e = 1) (d : Nat) {k : IntKind} {n : Nat} {a b : List Int} :
    ∀ (is : List Nat), (∀ i ∈ is, i < n) →
    (Op.eqItems (d + 1) e 1 ((List.range n).map fun j => Value.int k (a.getD j 0)).toArray ((List.range n).map fun j => Value.int k (b.getD j 0)).toArray is).run P w =
      .ok (is.all fun j => decide (a.getD j 0 = b.getD j 0)) w
  | [], _ => rfl
  | i :: r, h => by
    have hi := h i (by simp)
    have hp : ∀ l : List Int, (part e ((List.range n).map fun j => Value.int k (l.getD j 0)).toArray (i * 1)).run P w = .ok (.int k (l.getD i 0)) w := by
      intro l
      have hagg : (isAgg e).run P w = .ok false w := by unfold isAgg; rw [Sem.run_bind, run_underlying he w]; simp
      simp [part, Sem.run_bind, hagg, hi]
    simp only [Op.eqItems, Sem.run_bind, hp, Result.andThen_ok, run_equalIn_int w d e k q _ _ he]
    rw [beqD]
    by_cases hab : a.getD i 0 = b.getD i 0
    · simp only [hab, decide_true, Bool.not_true, Bool.false_eq_true, if_false, List.all_cons, Bool.true_and]
      exact run_eqItems_ints he h1 d r (fun j hj => h j (by simp [hj]))
    · simp only [hab, decide_false, Bool.not_false, if_true, List.all_cons, Bool.false_and, Sem.run_pure]

theorem getC_ex {l : List AV} {off sz : Nat} {sh : Sh} {v : AV} {cs : List Value} {t : TypeId} (hs : shOf P t = some (sh, sz)) (h : VRs E l cs) (hg : getC l off sz sh = some v) :
    ∃ c, (part t cs.toArray off).run P w = .ok c w ∧ TV E v c := by
  obtain ⟨c, hr, hc⟩ := run_part (w := w) hs (getC_len h hg)
  exact ⟨c, hr, getC_ok h hg hc⟩
mutual
theorem eqV_ok : ∀ (et : ET) (t : TypeId) (x y : AV) (c d : Value) (b : Bool) (D : Nat), et.rk ≤ D → etOK P et t = true → TV E x c → TV E y d → eqV et x y = some b → (Op.equalIn (D + 1) t c d).run P w = .ok b w
  | .scI, t, x, y, c, d, b, D, hD, ht, hx, hy, h => by
    simp only [eqV] at h
    simp only [etOK] at ht
    split at h
    · split at h
      · rename_i e; subst e
        injection h with h; subst h
        simp only [TV_int] at hx hy; subst hx; subst hy
        split at ht
        · rename_i hu; rw [run_equalIn_int w D t _ _ _ _ hu, beqD]
        · cases ht
      · cases h
    · cases h
  | .scB, t, x, y, c, d, b, D, hD, ht, hx, hy, h => by
    simp only [eqV] at h
    simp only [etOK] at ht
    split at h
    · injection h with h; subst h
      simp only [TV_bool] at hx hy; subst hx; subst hy
      split at ht
      · rename_i hu; rw [run_equalIn_bool' w D t _ _ hu]
      · cases ht
    · cases h
  | .scS, t, x, y, c, d, b, D, hD, ht, hx, hy, h => by
    simp only [eqV] at h
    simp only [etOK] at ht
    split at h
    · injection h with h; subst h
      simp only [TV_str] at hx hy; subst hx; subst hy
      split at ht
      · rename_i hu; rw [run_equalIn_string w D t _ _ hu, beqD]
      · cases ht
    · cases h
  | .ia n, t, x, y, c, d, b, D, hD, ht, hx, hy, h => by
    simp only [eqV] at h
    simp only [etOK] at ht
    split at h
    · rename_i k m xs k' m' ys
      split at h
      · rename_i e; obtain ⟨rfl, rfl, rfl⟩ := e
        injection h with h; subst h
        rw [TV_iarr] at hx hy
        subst hx; subst hy
        split at ht
        · rename_i m2 e hu
          simp only [Bool.and_eq_true, beq_iff_eq] at ht
          obtain ⟨rfl, ht⟩ := ht
          split at ht
          · rename_i q j hq hj
            simp only [ET.rk] at hD
            obtain ⟨D', rfl⟩ : ∃ D', D = D' + 1 := ⟨D - 1, by omega⟩
            have h1 : P.cellsOf e = 1 := by simp [Program.cellsOf, hj]; simpa using ht
            rw [run_equalIn_array w (D' + 1) _ _ hu hj, h1]
            exact run_eqItems_ints hq h1 D' (List.range m2) (fun i hi => by simpa using hi)
          · cases ht
        · cases ht
      · cases h
    · cases h
  | .st fs, t, x, y, c, d, b, D, hD, ht, hx, hy, h => by
    simp only [eqV] at h
    simp only [etOK] at ht
    split at h
    · rename_i xs ys
      obtain ⟨cs, hcs, rfl⟩ := TV_agg.1 hx
      obtain ⟨ds, hds, rfl⟩ := TV_agg.1 hy
      split at ht
      · rename_i gs hu
        simp only [Bool.and_eq_true, Bool.not_eq_true'] at ht
        have hf : P.fieldsOf t = gs := by simp [Program.fieldsOf, hu]
        rw [run_equalIn_struct w D t _ _ (by rw [hf]; exact hu) ht.1, hf]
        simp only [ET.rk] at hD
        exact eqF_ok fs gs.toList xs ys cs ds b D (by omega) ht.2 hcs hds h
      · cases ht
    · cases h
  | .ar _ _ _ _, t, x, y, c, d, b, D, hD, ht, hx, hy, h => by simp [eqV] at h
theorem eqF_ok : ∀ (fs : List (Nat × Nat × Sh × ET)) (gs : List Field) (a b : List AV) (cs ds : List Value) (r : Bool) (D : Nat), ET.rkF fs ≤ D → etFs P fs gs = true → VRs E a cs → VRs E b ds → eqF fs a b = some r →
    (Op.eqFields D cs.toArray ds.toArray gs).run P w = .ok r w
  | [], [], a, b, cs, ds, r, D, hD, ht, ha, hb, h => by simp only [eqF] at h; injection h with h; subst h; rfl
  | [], _ :: _, a, b, cs, ds, r, D, hD, ht, ha, hb, h => by simp [etFs] at ht
  | _ :: _, [], a, b, cs, ds, r, D, hD, ht, ha, hb, h => by simp [etFs] at ht
  | (off, sz, sh, et) :: fs, f :: gs, a, b, cs, ds, r, D, hD, ht, ha, hb, h => by
    simp only [etFs, Bool.and_eq_true, beq_iff_eq] at ht
    obtain ⟨⟨⟨⟨h1, rfl⟩, h3⟩, h4⟩, h5⟩ := ht
    simp only [eqF] at h
    simp only [ET.rkF] at hD
    have hpos : ∀ l, 1 ≤ ET.rkF l := by
      intro l
      induction l with
      | nil => simp [ET.rkF]
      | cons q r ih => obtain ⟨_, _, _, t⟩ := q; simp only [ET.rkF]; omega
    have := hpos fs
    split at h
    · rename_i x y hgx hgy
      split at h
      · rename_i p q hp hq
        injection h with h; subst h
        obtain ⟨c, hr1, hc⟩ := getC_ex (w := w) h3 ha hgx
        obtain ⟨d, hr2, hd⟩ := getC_ex (w := w) h3 hb hgy
        obtain ⟨D', rfl⟩ : ∃ D', D = D' + 1 := ⟨D - 1, by omega⟩
        have e1 := eqV_ok et f.type x y c d p D' (by omega) h4 hc hd hp
        have e2 := eqF_ok fs gs a b cs ds q (D' + 1) (by omega) h5 ha hb hq
        have hname : f.name ≠ "_" := by simpa using h1
        simp only [Op.eqFields, if_pos hname, Sem.run_bind, hr1, hr2, Result.andThen_ok, e1]
        cases p
        · simp
        · simpa using e2
      · cases h
    · cases h
end

def aeq (et : ET) (neg : Bool) (x y : AV) (K : AV → Prop) : Prop :=
  match eqV et x y with
  | some b => K (.bool (if neg then !b else b))
  | none => False
theorem eq_ok {et : ET} {t : TypeId} {neg : Bool} {X Y : Operand} {x y : AV} {c d : Value} (hR : Rep E A w) (hrk : et.rk ≤ 9999) (ht : etOK P et t = true) (hg : P.eqGuardType P.depth t = false)
    (hx : TV E x c) (hy : TV E y d) (h : aeq et neg x y fun v => K v A) :
    ResV E A w K ((do pure (Next.value (← (do eqGuard (if neg then .neq else .eql) t X Y c d; binOp (if neg then .neq else .eql) t c d))) : Sem Next).run P w) := by
  unfold aeq at h
  split at h
  · rename_i b hb
    have he := eqV_ok (w := w) et t x y c d b 9999 hrk ht hx hy hb
    have main : ∀ op, (op = .eql ∨ op = .neq) → (do eqGuard op t X Y c d; binOp op t c d : Sem Value).run P w = .ok (.bool (if op = .neq then !b else b)) w := by
      intro op hop
      cases et with
      | scI =>
        simp only [eqV] at hb
        split at hb
        · split at hb
          · rename_i e; subst e
            injection hb with hb; subst hb
            simp only [TV_int] at hx hy; subst hx; subst hy
            rw [Sem.run_bind, guardI]
            rcases hop with rfl | rfl <;> simp [binOp, Op.intCmp, beqD, bne]
          · cases hb
        · cases hb
      | scB =>
        simp only [eqV] at hb
        split at hb
        · injection hb with hb; subst hb
          simp only [TV_bool] at hx hy; subst hx; subst hy
          rw [Sem.run_bind, guardB]
          have he' : (Op.equal t (.bool _) (.bool _)).run P w = _ := he
          rcases hop with rfl | rfl <;> simp [binOp, Sem.run_bind, he']
        · cases hb
      | scS =>
        simp only [eqV] at hb
        split at hb
        · injection hb with hb; subst hb
          simp only [TV_str] at hx hy; subst hx; subst hy
          rw [Sem.run_bind, guardS]
          rcases hop with rfl | rfl <;> simp [binOp, Op.stringOp, beqD]
        · cases hb
      | ia n =>
        simp only [eqV] at hb
        split at hb
        · rw [TV_iarr] at hx hy
          subst hx; subst hy
          rw [Sem.run_bind, run_eqGuard_agg w op t X Y _ _ hg]
          rcases hop with rfl | rfl
          · simp only [Result.andThen_ok, run_eql_struct]
            rw [show (10000 : Nat) = 9999 + 1 from rfl, he]; simp
          · simp only [Result.andThen_ok, run_neq_struct]
            rw [show (10000 : Nat) = 9999 + 1 from rfl, he]; simp
        · cases hb
      | st fs =>
        simp only [eqV] at hb
        split at hb
        · obtain ⟨cs, hcs, rfl⟩ := TV_agg.1 hx
          obtain ⟨ds, hds, rfl⟩ := TV_agg.1 hy
          rw [Sem.run_bind, run_eqGuard_agg w op t X Y _ _ hg]
          rcases hop with rfl | rfl
          · simp only [Result.andThen_ok, run_eql_struct]
            rw [show (10000 : Nat) = 9999 + 1 from rfl, he]; simp
          · simp only [Result.andThen_ok, run_neq_struct]
            rw [show (10000 : Nat) = 9999 + 1 from rfl, he]; simp
        · cases hb
      | ar _ _ _ _ => simp [eqV] at hb
    cases neg
    · have := main .eql (.inl rfl)
      simp only [Bool.false_eq_true, if_false] at h ⊢
      rw [Sem.run_bind, this]
      simp only [Result.andThen_ok, Sem.run_pure]
      exact Res.val hR h (TV_bool.2 (by simp))
    · have := main .neq (.inr rfl)
      simp only [if_true] at h ⊢
      rw [Sem.run_bind, this]
      simp only [Result.andThen_ok, Sem.run_pure]
      exact Res.val hR h (TV_bool.2 (by simp))
  · exact h.elim

/-! ### small operations -/
def aconv (k : IntKind) (x : AV) (K : AV → Prop) : Prop :=
  match x with
  | .int _ n => K (.int k (k.wrap n))
  | _ => False
theorem conv_ok {s t : TypeId} {k : IntKind} {x : AV} {c : Value} (hR : Rep E A w) (hs : (P.underlying s).isSome = true) (ht : P.underlying t = some (.int k)) (hx : TV E x c)
    (h : aconv k x fun v => K v A) :
    ResV E A w K ((do pure (Next.value (← convert s t c)) : Sem Next).run P w) := by
  unfold aconv at h
  split at h
  · rename_i k' n
    simp only [TV_int] at hx; subst hx
    obtain ⟨u, hu⟩ := Option.isSome_iff_exists.1 hs
    have : (convert s t (.int k' n)).run P w = .ok (.int k (k.wrap n)) w := by
      simp only [convert, Sem.run_bind, run_underlying hu, run_underlying ht, Result.andThen_ok]
      cases u <;> rfl
    simp only [Sem.run_bind, this, Result.andThen_ok, Sem.run_pure]
    exact Res.val hR h (TV_int.2 rfl)
  · exact h.elim
theorem TVl_get {l : List AV} : ∀ {cs : List Value} {i : Nat} {v : AV}, TVl E l cs → l[i]? = some v → ∃ c, cs[i]? = some c ∧ TV E v c := by
  induction l with
  | nil => intro cs i v _ h; simp at h
  | cons x r ih =>
    intro cs i v h hv
    obtain ⟨c, cr, rfl, hc, hr⟩ := TVl_cons.1 h
    cases i with
    | zero => simp at hv; subst hv; exact ⟨c, rfl, hc⟩
    | succ i => simp at hv; simpa using ih hr hv
def aext (i : Nat) (x : AV) (K : AV → Prop) : Prop :=
  match x with
  | .tuple l => match l[i]? with
    | some v => K v
    | none => False
  | _ => False
theorem ext_ok {i : Nat} {x : AV} {c : Value} (hR : Rep E A w) (hx : TV E x c) (h : aext i x fun v => K v A) :
    ResV E A w K ((do pure (Next.value (← Instr.extract c i)) : Sem Next).run P w) := by
  unfold aext at h
  split at h
  · rename_i l
    split at h
    · rename_i v hv
      obtain ⟨xs, rfl, hl⟩ := TV_tuple.1 hx
      obtain ⟨d, hd, ht⟩ := TVl_get hl hv
      have : (Instr.extract (.tuple xs) i).run P w = .ok d w := by
        simp at hd
        simp [Instr.extract, hd]
      simp only [Sem.run_bind, this, Result.andThen_ok, Sem.run_pure]
      exact Res.val hR h ht
    · exact h.elim
  · exact h.elim
def apick (c a b : AV) (K : AV → Prop) : Prop :=
  match c with
  | .bool t => K (if t then a else b)
  | _ => False
theorem pick_ok {x a b : AV} {c d f : Value} (hR : Rep E A w) (hx : TV E x c) (ha : TV E a d) (hb : TV E b f) (h : apick x a b fun v => K v A) :
    ResV E A w K ((do pure (Next.value (if ← asBool c then d else f)) : Sem Next).run P w) := by
  unfold apick at h
  split at h
  · rename_i t
    simp only [TV_bool] at hx; subst hx
    simp only [Sem.run_bind, asBool, Sem.run_pure, Result.andThen_ok]
    cases t
    · exact Res.val hR h (by simpa using hb)
    · exact Res.val hR h (by simpa using ha)
  · exact h.elim
end
end AVL

/- append of noughts that are not made first. -/
namespace AVL
open Go
set_option linter.unusedSimpArgs false
set_option linter.unusedVariables false
section
variable {P : Program} {w : World} {E : Emb} {A : Heap} {K : AV → Heap → Prop}
theorem AppSrc.noughts {t tx e : TypeId} {i : TypeInfo} {z : Value} {k k' : IntKind} {n : Int} (ht : P.underlying t = some (.slice e)) (hx : P.underlying tx = some (.int k')) (hi : P.info? e = some i) (hz : i.zero = some z)
    (hzc : z.cells = #[.int k 0]) (h1 : i.size = 1) (hby : 0 < i.bytes) (h0 : 0 ≤ n) (hn : n * i.bytes ≤ 140737488355328) {kn : IntKind} :
    AppSrc P w E t tx e i z (.int kn n) ((List.replicate n.toNat (0 : Int)).map (AV.int k)) (List.replicate n.toNat (Value.int k 0)) := by
  obtain ⟨m, rfl⟩ : ∃ m : Nat, n = m := ⟨n.toNat, by omega⟩
  have hm : (m : Int) ≤ 140737488355328 := by
    have h2 : m * 1 ≤ m * i.bytes := Nat.mul_le_mul_left _ hby
    have h3 : ((m * i.bytes : Nat) : Int) ≤ 140737488355328 := by rw [Int.natCast_mul]; exact hn
    omega
  have hw : IntKind.i64.wrap (m : Int) = m := by
    simp [IntKind.wrap, IntKind.signed, IntKind.bits]; omega
  have hw0 : IntKind.i64.wrap 0 = 0 := by decide
  have hneg : ¬ ((m : Int) < 0) := by omega
  have hbig : ¬ ((m : Int) * i.bytes > 281474976710656) := by omega
  have hzz : Builtin.zeroCells z.cells m = (List.replicate m (Value.int k 0)).toArray := by
    rw [hzc]
    apply Array.ext'
    simp [Builtin.zeroCells]
    apply List.ext_getElem
    · simp
    · intro j h1 h2; simp [Nat.mod_one]
  refine ⟨?_, fun hnil a ty => ?_, ?_, ?_⟩
  · rw [h1]
    simp only [Int.toNat_natCast]
    clear hn hm hw hneg hbig hzz h0
    induction m with
    | zero => rfl
    | succ m ih => exact ⟨[.int k 0], _, rfl, rfl, by simp [VR], ih⟩
  · have h00 : m = 0 := by simpa using hnil
    subst h00
    cases a <;>
      simp [Builtin.append_, run_underlying ht, run_underlying hx, Go.sizeOf, typeInfo, hi, asInt, asIntOf, hw, hw0, h1, storeCells]
  · intro ty b off sLen sCap C hb hroom hfit h2
    simp only [List.length_map, List.length_replicate, Int.toNat_natCast] at hroom ⊢
    have hst := hb.stores P (off + sLen * i.size) (List.replicate m (Value.int k 0)) (by
      rw [h1] at hfit ⊢; simp; omega) (by simpa using h2)
    simp only [Nat.add_zero, List.length_replicate] at hst
    by_cases h00 : m = 0
    · subst h00
      have hr' : sLen ≤ sCap := by omega
      simp [hr', Builtin.append_, run_underlying ht, run_underlying hx, Go.sizeOf, typeInfo, hi, asInt, asIntOf, hw, hw0, h1, hroom, pA_add]
      rw [h1] at hst
      simp at hst
      unfold pA
      simp [hst]
    · simp [Builtin.append_, run_underlying ht, run_underlying hx, Go.sizeOf, typeInfo, zeroValue, hi, hz, asInt, asIntOf, hw, hw0, hneg, hbig, h1, h00, hroom, pA_add, hzz]
      rw [h1, Nat.mul_one] at hst
      unfold pA
      simp [hst]
  · intro ty base sLen sCap olds ho hle hg hby2 h63
    simp only [List.length_map, List.length_replicate, Int.toNat_natCast] at hg hby2 h63 ⊢
    have h00 : m ≠ 0 := by omega
    have hn2 : ¬ (sLen + m ≤ sCap) := by omega
    have h63' : ¬ (9223372036854775807 < ((sLen : Int) + (m : Int))) := by omega
    have h48 := growslice_fits (bytes := i.bytes) hg hby2
    have h48' : ¬ (281474976710656 < Builtin.nextslicecap (sLen + m) sCap * i.bytes) := by omega
    simp [Builtin.append_, run_underlying ht, run_underlying hx, Go.sizeOf, typeInfo, zeroValue, hi, hz, asInt, asIntOf, hw, hw0, hneg, hbig, h1, h00, hn2, h63', h48', Question.forced, newRow, grownCap, pA, hzz]
    rw [h1] at ho
    simp [ho]

/-- append of n noughts. -/
def aappZ (e : TypeId) (k : IntKind) (bytes : Nat) (d s : AV) (A : Heap) (K : AV → Heap → Prop) : Prop :=
  match s with
  | .int _ m => 0 ≤ m ∧ m * bytes ≤ 140737488355328 ∧ match d with
    | .nilS => ∀ g, A g = none → K (.own g 0 m.toNat) (A.set g (.irow e k (List.replicate m.toNat 0)))
    | .own g i n => match A g with
      | some (.irow e' k' l) => e' = e ∧ k' = k ∧ i + n ≤ l.length ∧ (n + m.toNat) * bytes ≤ 140737488355328 ∧
          ∀ g', A g' = none → K (.own g' 0 (n + m.toNat)) ((A.del g).set g' (.irow e k ((l.drop i).take n ++ List.replicate m.toNat 0)))
      | _ => False
    | _ => False
  | _ => False
theorem appZ_ok {t tx ty e : TypeId} {i : TypeInfo} {z : Value} {k k' : IntKind} (hR : Rep E A w) (ht : P.underlying t = some (.slice e)) (hx : P.underlying tx = some (.int k')) (hi : P.info? e = some i) (hz : i.zero = some z)
    (hzc : z.cells = #[.int k 0]) (h1 : i.size = 1) (hby : 0 < i.bytes) {d s : AV} {c c' : Value} (hd : TV E d c) (hs : TV E s c') (h : aappZ e k i.bytes d s A K) :
    Res E w K ((do pure (Next.value (← Builtin.append_ #[t, tx] ty #[c, c'])) : Sem Next).run P w) := by
  unfold aappZ at h
  split at h
  · rename_i kn m
    simp only [TV_int] at hs; subst hs
    obtain ⟨h0, hm, h⟩ := h
    have hzs : z.cells.size = i.size := by rw [hzc, h1]; rfl
    have hsrc := AppSrc.noughts (w := w) (E := E) (kn := kn) ht hx hi hz hzc h1 hby h0 hm
    have hmm : m.toNat * i.bytes ≤ 140737488355328 := by
      have : ((m.toNat : Int)) * i.bytes ≤ 140737488355328 := by rw [Int.toNat_of_nonneg h0]; exact hm
      exact Int.ofNat_le.1 (by rw [Int.natCast_mul]; exact this)
    split at h
    · refine Res.irow (e := e) (k := k) (app_core hR hi hz hzs hby hd hsrc (sts_ints k _) ?_)
      rw [h1]
      exact ⟨by simpa using hmm, fun g hg => ⟨A, g, _, rfl, by simpa using h g hg⟩⟩
    · rename_i g ii n
      split at h
      · rename_i e' k' l hA
        obtain ⟨rfl, rfl, hin, hb, hk⟩ := h
        refine Res.irow (e := e') (k := k') (app_core (hR.torow hA) hi hz hzs hby hd hsrc (sts_ints _ _) ?_)
        rw [h1]
        simp only [aappD, Heap.set_same]
        refine ⟨trivial, trivial, by simpa using hin, by simpa using hb, fun g' hg' => ?_⟩
        rw [Heap.del_set]
        have hg0 : A g' = none := by
          by_cases e : g' = g
          · subst e; rw [Heap.set_same] at hg'; cases hg'
          · rwa [Heap.set_ne _ _ e] at hg'
        refine ⟨A.del g, g', (l.drop ii).take n ++ List.replicate m.toNat 0, by simp [List.map_take, List.map_drop], by simpa using hk g' hg0⟩
      · exact h.elim
    · exact h.elim
  · exact h.elim
/-! what is copied into a row or an array -/
def spl (l : List Int) (i : Nat) (ys : List Int) : List Int := l.take i ++ ys ++ l.drop (i + ys.length)
theorem spl_length {l : List Int} {i : Nat} {ys : List Int} (h : i + ys.length ≤ l.length) : (spl l i ys).length = l.length := by simp [spl]; omega
theorem spl_get {l : List Int} {i : Nat} {ys : List Int} (h : i + ys.length ≤ l.length) (j : Nat) : (spl l i ys)[j]? = if i ≤ j ∧ j < i + ys.length then ys[j - i]? else l[j]? := seg_get l ys i h j
def acopy (k : IntKind) (d s : AV) (A : Heap) (K : AV → Heap → Prop) : Prop :=
  srcI k s A fun ys => match d with
  | .asl g o m i n => match A g with
    | some (.var t us) => match getI us o m with
      | some (k', xs) => k' = k ∧ xs.length = m ∧ (match setC us o m [.iarr k m (spl xs i (ys.take n))] with
        | some us' => K (.int .i64 (min n ys.length : Nat)) (A.set g (.var t us'))
        | none => False)
      | none => False
    | _ => False
  | .own g i n => match A g with
    | some (.irow t k' l) => k' = k ∧ i + n ≤ l.length ∧ K (.int .i64 (min n ys.length : Nat)) (A.set g (.irow t k (spl l i (ys.take n))))
    | _ => False
  | _ => False
theorem take_ints (k : IntKind) (ys : List Int) (n : Nat) : (List.take (Nat.min ys.length n * 1) (ys.map (Value.int k))) = (ys.take n).map (Value.int k) := by
  rw [Nat.mul_one, List.map_take]
  have : ys.map (Value.int k) = ys.map (Value.int k) := rfl
  rcases Nat.le_total n ys.length with h | h
  · rw [show Nat.min ys.length n = n from Nat.min_eq_right h]
  · rw [show Nat.min ys.length n = ys.length from Nat.min_eq_left h, List.take_of_length_le (by simp), List.take_of_length_le (by simpa using h)]
theorem VRe_ints_inv {k : IntKind} : ∀ {ys : List Int} {cs : List Value}, VRe E 1 (ys.map (AV.int k)) cs → cs = ys.map (Value.int k)
  | [], cs, h => by simpa [VRe] using h
  | y :: r, cs, h => by
    have : VRe E 1 (.int k y :: r.map (AV.int k)) cs := h
    simp only [VRe] at this
    obtain ⟨c1, c2, rfl, _, h3, h4⟩ := this
    simp only [VR] at h3
    subst h3
    rw [VRe_ints_inv h4]; rfl
theorem copy_ok {t tx ty e : TypeId} {i : TypeInfo} {k : IntKind} (hR : Rep E A w) (ht : P.underlying t = some (.slice e)) (hi : P.info? e = some i) (h1 : i.size = 1) {d s : AV} {c c' : Value} (hd : TV E d c) (hs : TV E s c') (h : acopy k d s A K) :
    Res E w K ((do pure (Next.value (← Builtin.copy_ #[t, tx] ty #[c, c'])) : Sem Next).run P w) := by
  unfold acopy at h
  obtain ⟨ys, h2, hG⟩ := srcI_ex h
  clear h
  have h := h2
  clear h2
  obtain ⟨vs, cs, rfl, hr⟩ := srcG_ok (P := P) hR hs hG
  have hcs : cs = ys.map (Value.int k) := VRe_ints_inv hr.cells
  subst hcs
  have hlen := hr.len
  rw [List.length_map] at hlen
  have hf := fun n => hr.first w (Nat.min ys.length n) rfl (by rw [List.length_map]; exact Nat.min_le_left _ _)
  have hrun : ∀ (a : Addr) (n cap : Nat) (w' : World), c = .slice (some a) n cap → (storeCells a ((ys.take n).map (Value.int k))).run P w = .ok () w' → (Builtin.copy_ #[t, tx] ty #[c, c']).run P w = .ok (goInt (Nat.min ys.length n)) w' := by
    rintro a n cap w' rfl hst
    have hf := hf n
    rw [take_ints] at hf
    simp [Builtin.copy_, run_underlying ht, hlen, Go.sizeOf, typeInfo, hi, h1, hf, hst, -List.map_take]
  have hrunN : ∀ (n cap : Nat), c = .slice none n cap → (Builtin.copy_ #[t, tx] ty #[c, c']).run P w = .ok (goInt (Nat.min ys.length n)) w := by
    rintro n cap rfl
    have hf := hf n
    rw [take_ints] at hf
    simp [Builtin.copy_, run_underlying ht, hlen, Go.sizeOf, typeInfo, hi, h1, hf, -List.map_take]
  have hrun0 : ∀ (a : Option Addr) (cap : Nat), c = .slice a 0 cap → (Builtin.copy_ #[t, tx] ty #[c, c']).run P w = .ok (goInt (Nat.min ys.length 0)) w := by
    rintro a cap hc
    cases a with
    | none => exact hrunN _ _ hc
    | some a => exact hrun _ _ _ _ hc (by simp [storeCells])
  have main : ∀ (b off n cap : Nat) (C : Array Value) (tb : TypeId), c = .slice (some (pA b off)) n cap → Blk w b C tb → off + (ys.take n).length ≤ C.size →
      (∀ A', Rep E A' (w.setRow b (C.toList.take off ++ (ys.take n).map (Value.int k) ++ C.toList.drop (off + (ys.take n).length)).toArray) → K (.int .i64 (min n ys.length : Nat)) A' → Res E w K ((do pure (Next.value (← Builtin.copy_ #[t, tx] ty #[c, c'])) : Sem Next).run P w)) := by
    intro b off n cap C tb hc hb hle A' hR' hk
    have hst := hb.stores P off ((ys.take n).map (Value.int k)) (by simpa using hle) (fun x hx => by obtain ⟨n, _, rfl⟩ := List.mem_map.1 hx; rfl)
    simp only [Nat.add_zero, List.length_map] at hst
    have hst' : (storeCells (pA b off) ((ys.take n).map (Value.int k))).run P w = .ok () (w.setRow b (C.toList.take off ++ (ys.take n).map (Value.int k) ++ C.toList.drop (off + (ys.take n).length)).toArray) := hst
    have hr2 := hrun _ _ _ _ hc hst'
    simp only [Sem.run_bind, hr2, Result.andThen_ok, Sem.run_pure]
    exact ⟨_, A', E, _, hk, hR', Emb.Le.refl E, Same.setRow _ _ _, .inl ⟨_, rfl, .inr ⟨rfl, by simp only [VR]; rw [show min n ys.length = Nat.min ys.length n from Nat.min_comm _ _]; rfl⟩⟩⟩
  split at h
  · rename_i g o m i' n
    obtain ⟨hg, him, a, hc, hloc⟩ := TV_asl.1 hd
    split at h
    · rename_i t' us hA
      split at h
      · rename_i k' xs hget
        obtain ⟨rfl, hxl, h⟩ := h
        split at h
        · rename_i us' hset
          obtain ⟨b, cells, ha, hF, hb, hvl⟩ := hR.cont g _ hA
          obtain ⟨hle, hcs⟩ := getI_ok hvl hget
          have hnv : VRs E [AV.iarr k' m (spl xs i' (ys.take n))] ((List.range m).map (fun j => Value.int k' ((spl xs i' (ys.take n)).getD j 0))) := by
            simp only [VRs, VR]; exact ⟨_, [], (List.append_nil _).symm, rfl, rfl⟩
          obtain ⟨hnew, hle2⟩ := setC_ok hvl hnv hset
          have hyl : (ys.take n).length ≤ n := by simp; omega
          have heq : cells.take (0 + o + i') ++ (ys.take n).map (Value.int k') ++ cells.drop (0 + o + i' + (ys.take n).length) = cells.take o ++ ((List.range m).map (fun j => Value.int k' ((spl xs i' (ys.take n)).getD j 0)) ++ cells.drop (o + m)) := by
            apply List.ext_getElem?
            intro q
            rw [← List.append_assoc]
            have s1 := seg_get cells ((ys.take n).map (Value.int k')) (o + i') (by simp only [List.length_map]; omega) q
            have s2 := seg_get cells ((List.range m).map (fun j => Value.int k' ((spl xs i' (ys.take n)).getD j 0))) o (by simpa using hle) q
            simp only [List.length_map, List.length_range] at s1 s2
            rw [Nat.zero_add, s1, s2]
            by_cases hq : o ≤ q ∧ q < o + m
            · rw [if_pos hq]
              have hsp := spl_get (l := xs) (i := i') (ys := ys.take n) (by omega) (q - o)
              simp only [List.getElem?_map]
              rw [List.getElem?_range (by omega)]
              simp only [Option.map_some, List.getD_eq_getElem?_getD, hsp]
              by_cases hq2 : o + i' ≤ q ∧ q < o + i' + (ys.take n).length
              · rw [if_pos hq2, if_pos (by omega)]
                rw [show q - o - i' = q - (o + i') by omega, List.getElem?_eq_getElem (by omega)]; rfl
              · rw [if_neg hq2, if_neg (by omega)]
                have h3 := hcs (q - o) (by omega)
                rw [show o + (q - o) = q by omega] at h3
                rw [h3, List.getD_eq_getElem?_getD]
            · rw [if_neg hq, if_neg (by omega)]
          have hfin : VRs E us' (cells.take (0 + o + i') ++ (ys.take n).map (Value.int k') ++ cells.drop (0 + o + i' + (ys.take n).length)) := by rw [heq]; exact hnew
          rcases hloc with hmi | ⟨b', off, ha', rfl⟩
          · have hn0 : n = 0 := by omega
            subst hn0
            have hr3 := hrun0 _ _ hc
            simp only [Sem.run_bind, hr3, Result.andThen_ok, Sem.run_pure]
            simp only [List.take_zero, List.map_nil, List.append_nil, List.length_nil, Nat.add_zero, List.take_append_drop] at hfin
            refine ⟨_, _, E, _, h, ?_, Emb.Le.refl E, Same.refl w, .inl ⟨_, rfl, .inr ⟨rfl, by simp only [VR]; rw [show min 0 ys.length = Nat.min ys.length 0 from Nat.min_comm _ _]; rfl⟩⟩⟩
            exact hR.change hA ha (fun y _ => rfl) ⟨b, _, ha, hF, hb, hfin⟩
          · rw [ha] at ha'; injection ha' with ha'; injection ha' with e1 e2; subst e1; subst e2
            refine main b (0 + o + i') n _ _ _ hc (Blk.of0 hb) (by simp; omega) _ ?_ h
            refine hR.change hA ha (fun y hy => setRow_heap_ne _ _ _ _ hy) ⟨b, _, ha, hF, setRow_heap_eq _ _ hb, ?_⟩
            simpa using hfin
        · exact h.elim
      · exact h.elim
    · exact h.elim
  · rename_i g i' n
    obtain ⟨hg, a, cap, hc, hcap, hroom', hloc⟩ := TV_own.1 hd
    split at h
    · rename_i t' k' l hA
      obtain ⟨rfl, hin, hk⟩ := h
      obtain ⟨hsz, hroom, hrow⟩ := hR.cont g _ hA
      have hyl : (ys.take n).length ≤ n := by simp; omega
      rcases hloc with hcap0 | ⟨b, off, ha, rfl⟩
      · have hn0 : n = 0 := by omega
        subst hn0
        have hr3 := hrun0 _ _ hc
        simp only [Sem.run_bind, hr3, Result.andThen_ok, Sem.run_pure]
        have hs0 : spl l i' (ys.take 0) = l := by simp [spl]
        rw [hs0, show A.set g (.irow t' k' l) = A from by funext x; simp only [Heap.set]; split <;> simp_all] at hk
        exact ⟨_, _, E, _, hk, hR, Emb.Le.refl E, Same.refl w, .inl ⟨_, rfl, .inr ⟨rfl, by simp only [VR]; rw [show min 0 ys.length = Nat.min ys.length 0 from Nat.min_comm _ _]; rfl⟩⟩⟩
      · obtain ⟨hn, _⟩ | ⟨b', off', C, ha', hF, hb, hC, hcs⟩ := hrow
        · rw [hn] at ha; cases ha
        rw [ha] at ha'; injection ha' with ha'; injection ha' with e1 e2; subst e1; subst e2
        rw [hsz, Nat.mul_one] at hc
        refine main b (off + i') n _ _ _ hc hb (by omega) _ ?_ hk
        have hsl := spl_length (l := l) (i := i') (ys := ys.take n) (by omega)
        refine hR.change hA ha (fun y hy => setRow_heap_ne _ _ _ _ hy) ⟨hsz, by omega, .inr ⟨b, off, _, ha, hF, hb.setRow (by simp; omega), ?_, fun j hj => ?_⟩⟩
        · simp; omega
        · have s1 := seg_get C.toList ((ys.take n).map (Value.int k')) (off + i') (by simp only [Array.length_toList, List.length_map]; omega) (off + j)
          simp only [List.length_map] at s1
          rw [hsl] at hj
          rw [List.getElem?_toArray, s1, List.getD_eq_getElem?_getD, spl_get (by omega)]
          by_cases hq : off + i' ≤ off + j ∧ off + j < off + i' + (ys.take n).length
          · rw [if_pos hq, if_pos (by omega), List.getElem?_map, show off + j - (off + i') = j - i' by omega, List.getElem?_eq_getElem (by omega)]; rfl
          · rw [if_neg hq, if_neg (by omega), Array.getElem?_toList]
            have := hcs j hj
            rw [List.getD_eq_getElem?_getD] at this
            exact this
    · exact h.elim
  · exact h.elim
end
end AVL

/- clear, of a slice of a row. -/
namespace AVL
open Go
set_option linter.unusedSimpArgs false
set_option linter.unusedVariables false
section
variable {P : Program} {w : World} {E : Emb} {A : Heap} {K : AV → Heap → Prop}
/-! clear, of a slice of a row -/
def aclr (sz : Nat) (z d : AV) (A : Heap) (K : AV → Heap → Prop) : Prop :=
  match d with
  | .nilS => K (.tuple []) A
  | .own g i n => match A g with
    | some (.row t s l) => s = sz ∧ i + n ≤ l.length ∧ K (.tuple []) (A.set g (.row t s (l.take i ++ (List.replicate n z ++ l.drop (i + n)))))
    | _ => False
  | _ => False
theorem zeroCells_eq {zc : Array Value} (n : Nat) (h : 0 < zc.size) : (Builtin.zeroCells zc n).toList = (List.replicate n zc.toList).flatten := by
  refine List.ext_getElem? fun j => ?_
  have hl : (List.replicate n zc.toList).flatten.length = n * zc.size := by simp
  by_cases hj : j < n * zc.size
  · have hlt : j % zc.size < zc.size := Nat.mod_lt _ h
    rw [flatten_get _ _ (by simpa using hj)]
    simp [Builtin.zeroCells, hj, hlt]
  · rw [List.getElem?_eq_none (by simp [Builtin.zeroCells]; omega), List.getElem?_eq_none (by omega)]
theorem clr_ok {t ty e : TypeId} {sz bytes : Nat} {z d : AV} {c : Value} (hR : Rep E A w) (ht : P.underlying t = some (.slice e)) (he : elOf P e = some (sz, bytes, z)) (hst : z.st = true) (hd : TV E d c) (h : aclr sz z d A K) :
    Res E w K ((do pure (Next.value (← Builtin.clear_ #[t] ty #[c])) : Sem Next).run P w) := by
  obtain ⟨i, zv, hi, rfl, rfl, hz, hzs, hp, hby, hv⟩ := elOf_ok he
  have hT : ∀ E : Emb, TV E (.tuple []) (.tuple #[]) := fun E => by rw [TV_tuple]; exact ⟨_, rfl, TVl_nil.2 rfl⟩
  unfold aclr at h
  split at h
  · have hc : ∃ k, c = .slice none 0 k := by
      rcases hd with ⟨hn, _⟩ | ⟨_, hd⟩
      · cases hn
      · simp only [VR] at hd
        injection hd with hd
        exact ⟨_, hd⟩
    obtain ⟨k, rfl⟩ := hc
    simp [Builtin.clear_, run_underlying ht]
    exact ⟨_, A, E, _, h, hR, Emb.Le.refl E, Same.refl w, .inl ⟨_, rfl, hT E⟩⟩
  · rename_i g ii n
    obtain ⟨hg, a, cap, rfl, hcap, hroom', hloc⟩ := TV_own.1 hd
    split at h
    · rename_i t' s l hA
      obtain ⟨rfl, hin, hk⟩ := h
      by_cases hn : n = 0
      · subst hn
        have hA' : A.set g (.row t' i.size (l.take ii ++ (List.replicate 0 z ++ l.drop (ii + 0)))) = A := by
          funext x; simp only [Heap.set]; split
          · subst_vars; rw [hA]; simp
          · rfl
        rw [hA'] at hk
        have hr : (Builtin.clear_ #[t] ty #[.slice a 0 cap]).run P w = .ok (.tuple #[]) w := by
          cases a <;> simp [Builtin.clear_, run_underlying ht]
        simp only [Sem.run_bind, hr, Result.andThen_ok, Sem.run_pure]
        exact ⟨_, A, E, _, hk, hR, Emb.Le.refl E, Same.refl w, .inl ⟨_, rfl, hT E⟩⟩
      · rcases hloc with hcap0 | ⟨b, off, ha, rfl⟩
        · omega
        have hrc := hR.cont g _ hA
        obtain ⟨hsz, hroom, hF, C, hb, hC, hve⟩ := row_cells hrc ha
        have hm : (ii + n) * i.size ≤ l.length * i.size := Nat.mul_le_mul_right _ hin
        have hm2 : l.length * i.size ≤ (E.loc g).room * i.size := Nat.mul_le_mul_right _ hroom
        have hm3 : (ii + n) * i.size = ii * i.size + n * i.size := Nat.add_mul _ _ _
        have hzl : zv.cells.toList.length = i.size := by simpa using hzs
        obtain ⟨F, hFe⟩ : ∃ F, F = (List.replicate n zv.cells.toList).flatten := ⟨_, rfl⟩
        have hFl : F.length = n * i.size := by rw [hFe]; simp [hzs]
        have hone : ∀ x ∈ F, x.oneCell' = true := by
          intro x hx
          rw [hFe] at hx
          obtain ⟨y, hy, hx⟩ := List.mem_flatten.1 hx
          obtain ⟨_, rfl⟩ := List.mem_replicate.1 hy
          exact st_one z _ hst (hv E) x hx
        have hsto := hb.stores P (off + ii * i.size) F (by rw [hFl]; omega) hone
        have hzc : (Builtin.zeroCells zv.cells n).toList = F := by rw [hFe]; exact zeroCells_eq n (by omega)
        have hr : (Builtin.clear_ #[t] ty #[.slice (some (pA b (off + ii * (E.loc g).sz))) n cap]).run P w = .ok (.tuple #[]) (w.setRow b (C.toList.take (off + ii * i.size) ++ F ++ C.toList.drop (off + ii * i.size + F.length)).toArray) := by
          rw [hsz]
          obtain ⟨m, rfl⟩ : ∃ m, n = m + 1 := ⟨n - 1, by omega⟩
          have hsto' : (storeCells (pA b (off + ii * i.size)) F).run P w = _ := hsto
          simp [Builtin.clear_, run_underlying ht, zeroValue, typeInfo, hi, hz, hzc, hsto']
        simp only [Sem.run_bind, hr, Result.andThen_ok, Sem.run_pure]
        refine ⟨_, _, E, _, hk, ?_, Emb.Le.refl E, Same.setRow _ _ _, .inl ⟨_, rfl, hT E⟩⟩
        have hvn := VRe_append (VRe_take ii hve) (VRe_append (VRe_replicate (E := E) hzl (hv E) n) (VRe_drop (ii + n) hve))
        rw [← hFe] at hvn
        refine hR.change hA ha (fun y hy => setRow_heap_ne _ _ _ _ hy) (row_of hsz (by simp; omega) ha hF (hb.setRow (by simp [hFl]; omega)) (by simp [hFl]; omega) hvn fun j hj => ?_)
        have hLl : ((C.toList.drop off).take (l.length * i.size)).length = l.length * i.size := by simp; omega
        obtain ⟨L, hL⟩ : ∃ L, L = (C.toList.drop off).take (l.length * i.size) := ⟨_, rfl⟩
        rw [← hL] at hLl hj ⊢
        have hLg : ∀ q, q < l.length * i.size → L[q]? = C.toList[off + q]? := fun q hq => by rw [hL, List.getElem?_take, if_pos hq, List.getElem?_drop]
        have s1 := seg_get C.toList F (off + ii * i.size) (by simp [hFl]; omega) (off + j)
        have s2 := seg_get L F (ii * i.size) (by rw [hFl]; omega) j
        have hj2 : j < l.length * i.size := by
          simp only [List.length_append, List.length_take, List.length_drop, hFl, hLl] at hj
          omega
        rw [hm3, ← hFl, ← List.append_assoc, s2, List.getElem?_toArray, s1]
        by_cases hq : ii * i.size ≤ j ∧ j < ii * i.size + F.length
        · rw [if_pos hq, if_pos (by omega)]
          congr 1; omega
        · rw [if_neg hq, if_neg (by omega), hLg j hj2]
    · exact h.elim
  · exact h.elim
end
end AVL
