/- The operations on abstract values that touch no memory, and that the machine's agree. -/
import Derived.Test.YtfdckjliinpjiaaVc
namespace AVL
open Go
set_option linter.unusedSimpArgs false
set_option linter.unusedVariables false

theorem beqD {α : Type} [BEq α] [LawfulBEq α] [DecidableEq α] (a b : α) : (a == b) = decide (a = b) := by
  by_cases h : a = b <;> simp [h]

abbrev AEnv := Nat → AV
def upd (env : AEnv) (d : Nat) (v : AV) : AEnv := fun x => if x = d then v else env x

inductive AO where
  | t (n : Nat)
  | v (a : AV)
def ev (env : AEnv) : AO → AV
  | .t n => env n
  | .v a => a

/-- A constant of the program as an abstract value. -/
def scV : Value → Option AV
  | .int k n => some (.int k n)
  | .bool b => some (.bool b)
  | .string s => some (.str s)
  | .pointer none => some .nilP
  | .slice none 0 0 => some .nilS
  | .nilFunc => some .nilF
  | .nilIface => some .nilI
  | .map none => some .nilM
  | _ => none
def scVs : List Value → Option (List AV)
  | [] => some []
  | c :: r => match scV c, scVs r with
    | some v, some l => some (v :: l)
    | _, _ => none
def cV : Value → Option AV
  | .agg cs => (scVs cs.toList).map .agg
  | v => scV v
def trO : Operand → Option AO
  | .tmp n => some (.t n)
  | .const v => (cV v).map .v
  | .func f => some (.v (.func (.func f) [] []))
  | .global _ => none

theorem scV_ok {E : Emb} {c : Value} {v : AV} (h : scV c = some v) : VR E v [c] ∧ v.isAgg = false := by
  unfold scV at h
  split at h <;> first | (injection h with h; subst h; simp [VR, AV.isAgg]) | cases h
theorem scVs_ok {E : Emb} : ∀ (cs : List Value) (l : List AV), scVs cs = some l → VRs E l cs
  | [], l, h => by simp [scVs] at h; subst h; simp [VRs]
  | c :: r, l, h => by
    simp only [scVs] at h
    split at h
    · rename_i v y h1 h2
      injection h with h; subst h
      simp only [VRs]
      exact ⟨[c], r, rfl, (scV_ok h1).1, scVs_ok r y h2⟩
    · cases h
theorem cV_ok {E : Emb} {c : Value} {v : AV} (h : cV c = some v) : TV E v c := by
  unfold cV at h
  split at h
  · rename_i cs
    cases hs : scVs cs.toList with
    | none => rw [hs] at h; simp at h
    | some l =>
      rw [hs] at h; simp at h; subst h
      have := scVs_ok (E := E) _ _ hs
      exact .inl ⟨rfl, cs.toList, by simpa only [VR] using this, by simp⟩
  · obtain ⟨h1, h2⟩ := scV_ok (E := E) h
    exact TV.sc h2 h1

/-- The slots of a frame stand for an abstract environment. -/
def EnvR (E : Emb) (env : AEnv) (a : Act) : Prop := ∀ n, TV E (env n) (a.tmps.getD n undef)
theorem TV_undef (E : Emb) (c : Value) (hc : c = undef := by rfl) : TV E .undef c := TV.sc rfl (by subst hc; simp [VR])
theorem TV_undef_eq {E : Emb} {c : Value} (h : TV E .undef c) : c = undef := by
  rcases h with ⟨h, _⟩ | ⟨_, h⟩
  · cases h
  · simp only [VR] at h; injection h
theorem EnvR.mono {E E' : Emb} (hE : E.Le E') {env : AEnv} {a : Act} (h : EnvR E env a) : EnvR E' env a := fun n => TV_mono hE (h n)
theorem EnvR.put {E : Emb} {env : AEnv} {a : Act} (h : EnvR E env a) {d : Nat} {v : AV} {c : Value} (hv : TV E v c) (hd : d < a.tmps.size) : EnvR E (upd env d v) (a.put (some d) c) := by
  intro n
  simp only [upd, Act.put]
  split
  · rename_i e; subst e
    simpa [Array.getD_eq_getD_getElem?, hd] using hv
  · rename_i e
    have := h n
    rw [Array.getD_eq_getD_getElem?] at this ⊢
    rwa [Array.getElem?_setIfInBounds_ne (by omega)]
theorem ev_ok {E : Emb} {env : AEnv} {a : Act} (h : EnvR E env a) {x : Operand} {ax : AO} (hx : trO x = some ax) : TV E (ev env ax) (a.eval x) := by
  cases x with
  | tmp n => simp only [trO] at hx; injection hx with hx; subst hx; exact h n
  | const v =>
    simp only [trO] at hx
    cases hc : cV v with
    | none => rw [hc] at hx; simp at hx
    | some y => rw [hc] at hx; simp at hx; subst hx; exact cV_ok hc
  | func f => simp only [trO] at hx; injection hx with hx; subst hx; exact TV.sc rfl (by show VR E (.func (.func f) [] []) [Value.func (.func f) #[] #[]]; simp [VR, TVl])
  | global g => simp [trO] at hx

section inv
variable {E : Emb} {c : Value}
@[simp] theorem TV_int {k : IntKind} {n : Int} : TV E (.int k n) c ↔ c = .int k n := by simp [TV, AV.isAgg, VR]
@[simp] theorem TV_bool {b : Bool} : TV E (.bool b) c ↔ c = .bool b := by simp [TV, AV.isAgg, VR]
@[simp] theorem TV_str {s : ByteArray} : TV E (.str s) c ↔ c = .string s := by simp [TV, AV.isAgg, VR]
@[simp] theorem TV_nilS : TV E .nilS c ↔ c = .slice none 0 0 := by simp [TV, AV.isAgg, VR]
@[simp] theorem TV_nilP : TV E .nilP c ↔ c = .pointer none := by simp [TV, AV.isAgg, VR]
@[simp] theorem TV_nilF : TV E .nilF c ↔ c = .nilFunc := by simp [TV, AV.isAgg, VR]
@[simp] theorem TV_nilI : TV E .nilI c ↔ c = .nilIface := by simp [TV, AV.isAgg, VR]
theorem TV_agg {l : List AV} : TV E (.agg l) c ↔ ∃ xs, VRs E l xs ∧ c = .agg xs.toArray := by simp [TV, AV.isAgg, VR]
theorem TV_iarr {k : IntKind} {n : Nat} {l : List Int} : TV E (.iarr k n l) c ↔ c = .agg ((List.range n).map (fun j => Value.int k (l.getD j 0))).toArray := by simp [TV, AV.isAgg, VR]
theorem TV_isl {k : IntKind} {l : List Int} : TV E (.isl k l) c ↔ ∃ a cap, c = .slice a l.length cap ∧ l.length ≤ cap ∧ (0 < l.length → ∃ b off, a = some (pA b off) ∧ ∀ j, j < l.length → E.cell b (off + j) = some (.int k (l.getD j 0))) := by
  simp [TV, AV.isAgg, VR]
theorem TV_dsl {sz : Nat} {l : List AV} : TV E (.dsl sz l) c ↔ ∃ a cap, c = .slice a l.length cap ∧ l.length ≤ cap ∧ (0 < l.length → ∃ b off, a = some (pA b off) ∧ SR E b sz off l) := by
  simp [TV, AV.isAgg, VR]
theorem TV_own {g i n : Nat} : TV E (.own g i n) c ↔ g < E.N ∧ ∃ a cap, c = .slice a n cap ∧ n ≤ cap ∧ i + cap = (E.loc g).room ∧
      (cap = 0 ∨ ∃ b off, (E.loc g).addr = some (b, off) ∧ a = some (pA b (off + i * (E.loc g).sz))) := by
  simp [TV, AV.isAgg, VR]
theorem TV_asl {g o m i n : Nat} : TV E (.asl g o m i n) c ↔ g < E.N ∧ i + n ≤ m ∧ ∃ a, c = .slice a n (m - i) ∧ (m = i ∨ ∃ b off, (E.loc g).addr = some (b, off) ∧ a = some (pA b (off + o + i))) := by
  simp [TV, AV.isAgg, VR]
theorem TV_ptr {g o : Nat} : TV E (.ptr g o) c ↔ g < E.N ∧ ∃ b off, (E.loc g).addr = some (b, off) ∧ c = .pointer (some (pA b (off + o))) := by
  simp [TV, AV.isAgg, VR]
theorem TV_pix {g o m i : Nat} : TV E (.pix g o m i) c ↔ g < E.N ∧ i < m ∧ ∃ b off, (E.loc g).addr = some (b, off) ∧ c = .pointer (some (pA b (off + o + i))) := by
  simp [TV, AV.isAgg, VR]
theorem TV_pel {g i o : Nat} : TV E (.pel g i o) c ↔ g < E.N ∧ ∃ b off, (E.loc g).addr = some (b, off) ∧ c = .pointer (some (pA b (off + i * (E.loc g).sz + o))) := by
  simp [TV, AV.isAgg, VR]
theorem TV_pval {v : AV} : TV E (.pval v) c ↔ ∃ b off xs, c = .pointer (some (pA b off)) ∧ xs.length = v.size ∧ (∀ j, j < v.size → E.cell b (off + j) = xs[j]?) ∧ VR E v xs := by
  simp [TV, AV.isAgg, VR]
theorem TV_func {fn : Fn} {f g : List AV} : TV E (.func fn f g) c ↔ ∃ xs ys, c = .func fn xs ys ∧ TVl E f xs.toList ∧ TVl E g ys.toList := by
  simp [TV, AV.isAgg, VR]
theorem TV_iface {t : TypeId} {v : AV} : TV E (.iface t v) c ↔ ∃ x, c = .iface t x ∧ TV E v x := by
  simp [TV, AV.isAgg, VR]
theorem TV_tuple {l : List AV} : TV E (.tuple l) c ↔ ∃ xs, c = .tuple xs ∧ TVl E l xs.toList := by
  simp [TV, AV.isAgg, VR]
theorem TVl_nil {cs : List Value} : TVl E [] cs ↔ cs = [] := by simp [TVl]
theorem TVl_cons {v : AV} {l : List AV} {cs : List Value} : TVl E (v :: l) cs ↔ ∃ c cr, cs = c :: cr ∧ TV E v c ∧ TVl E l cr := by simp [TVl, TV]
end inv

/-- What an operation's run must be. -/
def Res (E : Emb) (w : World) (K : AV → Heap → Prop) (r : Result Next) : Prop :=
  ∃ v A' E' w', K v A' ∧ Rep E' A' w' ∧ E.Le E' ∧ Same w w' ∧ ((∃ c, r = .ok (.value c) w' ∧ TV E' v c) ∨ (r = .ok .skip w' ∧ v = .undef))
/-- What an operation's run must be that touches no memory. -/
def ResV (E : Emb) (A : Heap) (w : World) (K : AV → Heap → Prop) (r : Result Next) : Prop := ∃ v c, K v A ∧ r = .ok (.value c) w ∧ TV E v c
theorem Res.val {E : Emb} {A : Heap} {w : World} {K : AV → Heap → Prop} {v : AV} {c : Value} (hR : Rep E A w) (hk : K v A) (hv : TV E v c) : ResV E A w K (.ok (.value c) w) :=
  ⟨v, c, hk, rfl, hv⟩
theorem ResV.res {E : Emb} {A : Heap} {w : World} {K : AV → Heap → Prop} {r : Result Next} (h : ResV E A w K r) (hR : Rep E A w) : Res E w K r := by
  obtain ⟨v, c, hk, rfl, hv⟩ := h
  exact ⟨v, A, E, w, hk, hR, Emb.Le.refl E, Same.refl w, .inl ⟨c, rfl, hv⟩⟩

def bAnd (k : IntKind) (a b : Int) : Int := k.wrap (BitVec.ofInt k.bits a &&& BitVec.ofInt k.bits b).toNat
def bOr (k : IntKind) (a b : Int) : Int := k.wrap (BitVec.ofInt k.bits a ||| BitVec.ofInt k.bits b).toNat
def bXor (k : IntKind) (a b : Int) : Int := k.wrap (BitVec.ofInt k.bits a ^^^ BitVec.ofInt k.bits b).toNat
def bClr (k : IntKind) (a b : Int) : Int := k.wrap (BitVec.ofInt k.bits a &&& ~~~BitVec.ofInt k.bits b).toNat
def shlI (k : IntKind) (a b : Int) : Int := k.wrap (a * 2 ^ min b.toNat k.bits)
def shrI (k : IntKind) (a b : Int) : Int := a.fdiv (2 ^ min b.toNat k.bits)

def abinI (op : BinOp) (k : IntKind) (a : Int) (k' : IntKind) (b : Int) (K : AV → Prop) : Prop :=
  match op with
  | .shl => 0 ≤ b ∧ K (.int k (shlI k a b))
  | .shr => 0 ≤ b ∧ K (.int k (shrI k a b))
  | .add => k = k' ∧ K (.int k (k.wrap (a + b)))
  | .sub => k = k' ∧ K (.int k (k.wrap (a - b)))
  | .mul => k = k' ∧ K (.int k (k.wrap (a * b)))
  | .quo => k = k' ∧ b ≠ 0 ∧ K (.int k (k.wrap (a.tdiv b)))
  | .rem => k = k' ∧ b ≠ 0 ∧ K (.int k (a.tmod b))
  | .and => k = k' ∧ K (.int k (bAnd k a b))
  | .or => k = k' ∧ K (.int k (bOr k a b))
  | .xor => k = k' ∧ K (.int k (bXor k a b))
  | .andNot => k = k' ∧ K (.int k (bClr k a b))
  | .eql => k = k' ∧ K (.bool (decide (a = b)))
  | .neq => k = k' ∧ K (.bool (!decide (a = b)))
  | .lss => k = k' ∧ K (.bool (decide (a < b)))
  | .leq => k = k' ∧ K (.bool (decide (a ≤ b)))
  | .gtr => k = k' ∧ K (.bool (decide (b < a)))
  | .geq => k = k' ∧ K (.bool (decide (b ≤ a)))
def abinS (op : BinOp) (a b : ByteArray) (K : AV → Prop) : Prop :=
  match op with
  | .add => a.size + b.size < 2 ^ 63 ∧ K (.str (a ++ b))
  | .eql => K (.bool (decide (a.toList = b.toList)))
  | .neq => K (.bool (!decide (a.toList = b.toList)))
  | .lss => K (.bool (Op.bytesLess a.toList b.toList))
  | .leq => K (.bool (Op.bytesLess a.toList b.toList || decide (a.toList = b.toList)))
  | .gtr => K (.bool (!(Op.bytesLess a.toList b.toList || decide (a.toList = b.toList))))
  | .geq => K (.bool (!Op.bytesLess a.toList b.toList))
  | _ => False
def abin (op : BinOp) (x y : AV) (K : AV → Prop) : Prop :=
  match x, y with
  | .int k a, .int k' b => abinI op k a k' b K
  | .str a, .str b => abinS op a b K
  | _, _ => False
def aun (op : UnOp) (x : AV) (K : AV → Prop) : Prop :=
  match op, x with
  | .neg, .int k n => K (.int k (k.wrap (0 - n)))
  | .xor, .int k n => K (.int k (bXor k (if k.signed then -1 else k.max) n))
  | .not, .bool b => K (.bool !b)
  | _, _ => False

section
variable {P : Program} {w : World} {E : Emb} {A : Heap} {K : AV → Heap → Prop}
theorem guardI {op : BinOp} {t : TypeId} {X Y : Operand} {k : IntKind} {n : Int} {d : Value} : (eqGuard op t X Y (.int k n) d).run P w = .ok () w := by
  cases op <;> rfl
theorem guardS {op : BinOp} {t : TypeId} {X Y : Operand} {s : ByteArray} {d : Value} : (eqGuard op t X Y (.string s) d).run P w = .ok () w := by
  cases op <;> rfl
theorem guardB {op : BinOp} {t : TypeId} {X Y : Operand} {b : Bool} {d : Value} : (eqGuard op t X Y (.bool b) d).run P w = .ok () w := by
  cases op <;> rfl

theorem binI_ok {op : BinOp} {t : TypeId} {k k' : IntKind} {a b : Int} {L : AV → Prop} (h : abinI op k a k' b L) :
    ∃ v c, L v ∧ (binOp op t (.int k a) (.int k' b)).run P w = .ok c w ∧ ∀ E, TV E v c := by
  cases op <;> simp only [abinI] at h
  case shl => exact ⟨_, _, h.2, by simp only [binOp, Op.shift, if_neg (Int.not_lt.2 h.1)]; rfl, fun E => TV_int.2 rfl⟩
  case shr => exact ⟨_, _, h.2, by simp only [binOp, Op.shift, if_neg (Int.not_lt.2 h.1)]; rfl, fun E => TV_int.2 rfl⟩
  case quo => obtain ⟨rfl, h0, h⟩ := h; exact ⟨_, _, h, by simp [binOp, Op.intDiv, h0] <;> rfl, fun E => TV_int.2 rfl⟩
  case rem => obtain ⟨rfl, h0, h⟩ := h; exact ⟨_, _, h, by simp [binOp, Op.intDiv, h0] <;> rfl, fun E => TV_int.2 rfl⟩
  all_goals obtain ⟨rfl, h⟩ := h
  case add => exact ⟨_, _, h, by simp [binOp, Op.intArith] <;> rfl, fun E => TV_int.2 rfl⟩
  case sub => exact ⟨_, _, h, by simp [binOp, Op.intArith] <;> rfl, fun E => TV_int.2 rfl⟩
  case mul => exact ⟨_, _, h, by simp [binOp, Op.intArith] <;> rfl, fun E => TV_int.2 rfl⟩
  case and => exact ⟨_, _, h, by simp [binOp, Op.intBits] <;> rfl, fun E => TV_int.2 rfl⟩
  case or => exact ⟨_, _, h, by simp [binOp, Op.intBits] <;> rfl, fun E => TV_int.2 rfl⟩
  case xor => exact ⟨_, _, h, by simp [binOp, Op.intBits] <;> rfl, fun E => TV_int.2 rfl⟩
  case andNot => exact ⟨_, _, h, by simp only [binOp, ne_eq, not_true_eq_false, if_false, Op.intBits]; rfl, fun E => TV_int.2 rfl⟩
  case eql => exact ⟨_, _, h, by simp [binOp, Op.intCmp, beqD] <;> rfl, fun E => TV_bool.2 rfl⟩
  case neq => exact ⟨_, _, h, by simp [binOp, Op.intCmp, bne, beqD] <;> rfl, fun E => TV_bool.2 rfl⟩
  case lss => exact ⟨_, _, h, by simp [binOp, Op.intCmp] <;> rfl, fun E => TV_bool.2 rfl⟩
  case leq => exact ⟨_, _, h, by simp [binOp, Op.intCmp] <;> rfl, fun E => TV_bool.2 rfl⟩
  case gtr => exact ⟨_, _, h, by simp [binOp, Op.intCmp] <;> rfl, fun E => TV_bool.2 rfl⟩
  case geq => exact ⟨_, _, h, by simp [binOp, Op.intCmp] <;> rfl, fun E => TV_bool.2 rfl⟩
theorem binS_ok {op : BinOp} {t : TypeId} {a b : ByteArray} {L : AV → Prop} (h : abinS op a b L) :
    ∃ v c, L v ∧ (binOp op t (.string a) (.string b)).run P w = .ok c w ∧ ∀ E, TV E v c := by
  cases op <;> simp only [abinS] at h
  case add =>
    refine ⟨_, _, h.2, ?_, fun E => TV_str.2 rfl⟩
    have : ¬ (((a.size + b.size : Nat) : Int) > IntKind.i64.max) := by
      have : IntKind.i64.max = 9223372036854775807 := by decide
      rw [this]; omega
    simp only [binOp, Op.stringOp, if_neg this]; rfl
  case eql => exact ⟨_, _, h, by simp [binOp, Op.stringOp, beqD] <;> rfl, fun E => TV_bool.2 rfl⟩
  case neq => exact ⟨_, _, h, by simp [binOp, Op.stringOp, beqD] <;> rfl, fun E => TV_bool.2 rfl⟩
  case lss => exact ⟨_, _, h, by simp [binOp, Op.stringOp] <;> rfl, fun E => TV_bool.2 rfl⟩
  case leq => exact ⟨_, _, h, by simp [binOp, Op.stringOp, beqD] <;> rfl, fun E => TV_bool.2 rfl⟩
  case gtr => exact ⟨_, _, h, by simp [binOp, Op.stringOp, beqD] <;> rfl, fun E => TV_bool.2 rfl⟩
  case geq => exact ⟨_, _, h, by simp [binOp, Op.stringOp] <;> rfl, fun E => TV_bool.2 rfl⟩
  all_goals exact h.elim
theorem bin_ok {op : BinOp} {t : TypeId} {X Y : Operand} {x y : AV} {c d : Value} (hR : Rep E A w) (hx : TV E x c) (hy : TV E y d) (h : abin op x y fun v => K v A) :
    ResV E A w K ((do pure (Next.value (← (do eqGuard op t X Y c d; binOp op t c d))) : Sem Next).run P w) := by
  unfold abin at h
  split at h
  · simp only [TV_int] at hx hy
    subst hx; subst hy
    obtain ⟨v, c, hk, hr, hv⟩ := binI_ok (P := P) (w := w) (t := t) h
    simp only [Sem.run_bind, guardI, Result.andThen_ok, hr, Sem.run_pure]
    exact Res.val hR hk (hv E)
  · simp only [TV_str] at hx hy
    subst hx; subst hy
    obtain ⟨v, c, hk, hr, hv⟩ := binS_ok (P := P) (w := w) (t := t) h
    simp only [Sem.run_bind, guardS, Result.andThen_ok, hr, Sem.run_pure]
    exact Res.val hR hk (hv E)
  · exact h.elim
theorem un_ok {op : UnOp} {x : AV} {c : Value} (hR : Rep E A w) (hx : TV E x c) (h : aun op x fun v => K v A) :
    ResV E A w K ((do pure (Next.value (← Op.unary op c)) : Sem Next).run P w) := by
  unfold aun at h
  split at h
  · simp only [TV_int] at hx; subst hx
    simp only [Op.unary, Op.intArith, Sem.run_bind, Sem.run_pure, Result.andThen_ok]
    exact Res.val hR h (TV_int.2 rfl)
  · simp only [TV_int] at hx; subst hx
    simp only [Op.unary, Op.intBits, Sem.run_bind, Sem.run_pure, Result.andThen_ok]
    exact Res.val hR h (TV_int.2 rfl)
  · simp only [TV_bool] at hx; subst hx
    simp only [Op.unary, Sem.run_bind, Sem.run_pure, Result.andThen_ok]
    exact Res.val hR h (TV_bool.2 rfl)
  · exact h.elim
end
end AVL
