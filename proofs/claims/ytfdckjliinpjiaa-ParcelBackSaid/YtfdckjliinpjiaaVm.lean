/- Equality; small operations. -/
import Derived.Test.YtfdckjliinpjiaaVl
import Derived.Laws.StructEq
import Derived.ChangeKeysEq
namespace AVL
open Go
set_option linter.unusedSimpArgs false
set_option linter.unusedVariables false

/-- How values of a type are held against each other. -/
inductive ET where
  | scI
  | scB
  | scS
  | ia (n : Nat)
  | st (fs : List (Nat × Nat × Sh × ET))
  | ar (n sz : Nat) (sh : Sh) (t : ET)

def eqI (n : Nat) (a b : List Int) : Bool := (List.range n).all fun j => decide (a.getD j 0 = b.getD j 0)
theorem eqI_iff {n : Nat} {a b : List Int} (ha : a.length = n) (hb : b.length = n) : eqI n a b = decide (a = b) := by
  rw [Bool.eq_iff_iff]
  simp only [eqI, List.all_eq_true, List.mem_range, decide_eq_true_eq]
  constructor
  · intro h
    apply List.ext_getElem (by omega)
    intro i h1 h2
    have := h i (by omega)
    simpa [List.getD_eq_getElem?_getD, h1, h2] using this
  · rintro rfl j _; rfl

mutual
def eqV : ET → AV → AV → Option Bool
  | .scI, x, y => match x, y with
    | .int k a, .int k' b => if k = k' then some (decide (a = b)) else none
    | _, _ => none
  | .scB, x, y => match x, y with
    | .bool a, .bool b => some (a == b)
    | _, _ => none
  | .scS, x, y => match x, y with
    | .str a, .str b => some (decide (a.toList = b.toList))
    | _, _ => none
  | .ia n, x, y => match x, y with
    | .iarr k m a, .iarr k' m' b => if k = k' ∧ m = n ∧ m' = n then some (eqI n a b) else none
    | _, _ => none
  | .st fs, x, y => match x, y with
    | .agg a, .agg b => eqF fs a b
    | _, _ => none
  | .ar _ _ _ _, _, _ => none
def eqF : List (Nat × Nat × Sh × ET) → List AV → List AV → Option Bool
  | [], _, _ => some true
  | (off, sz, sh, t) :: r, a, b => match getC a off sz sh, getC b off sz sh with
    | some x, some y => match eqV t x y, eqF r a b with
      | some p, some q => some (p && q)
      | _, _ => none
    | _, _ => none
end

mutual
def ET.rk : ET → Nat
  | .scI => 1
  | .scB => 1
  | .scS => 1
  | .ia _ => 2
  | .st fs => ET.rkF fs + 1
  | .ar _ _ _ t => t.rk + 1
def ET.rkF : List (Nat × Nat × Sh × ET) → Nat
  | [] => 1
  | (_, _, _, t) :: r => t.rk + ET.rkF r
end
mutual
/-- The tree fits the type. -/
def etOK (P : Program) : ET → TypeId → Bool
  | .scI, t => match P.underlying t with | some (.int _) => true | _ => false
  | .scB, t => match P.underlying t with | some .bool => true | _ => false
  | .scS, t => match P.underlying t with | some .string => true | _ => false
  | .ia n, t => match P.underlying t with
    | some (.array m e) => m == n && (match P.underlying e, P.info? e with | some (.int _), some j => j.size == 1 | _, _ => false)
    | _ => false
  | .st fs, t => (match P.underlying t with
    | some (.struct gs) => !P.stoodInHeld t && etFs P fs gs.toList
    | _ => false)
  | .ar _ _ _ _, _ => false
def etFs (P : Program) : List (Nat × Nat × Sh × ET) → List Field → Bool
  | [], [] => true
  | (off, sz, sh, et) :: r, f :: gs => f.name != "_" && f.offset == off && shOf P f.type == some (sh, sz) && etOK P et f.type && etFs P r gs
  | _, _ => false
end

section
variable {P : Program} {w : World} {E : Emb} {A : Heap} {K : AV → Heap → Prop}

theorem run_eqItems_ints {e : TypeId} {q : IntKind} (he : P.underlying e = some (.int q)) (h1 : P.cellsOf e = 1) (d : Nat) {k : IntKind} {n : Nat} {a b : List Int} :
    ∀ (is : List Nat), (∀ i ∈ is, i < n) →
    (Op.eqItems (d + 1) e 1 ((List.range n).map fun j => Value.int k (a.getD j 0)).toArray ((List.range n).map fun j => Value.int k (b.getD j 0)).toArray is).run P w =
      .ok (is.all fun j => decide (a.getD j 0 = b.getD j 0)) w
  | [], _ => rfl
  | i :: r, h => by
    have hi := h i (by simp)
    have hp : ∀ l : List Int, (part e ((List.range n).map fun j => Value.int k (l.getD j 0)).toArray (i * 1)).run P w = .ok (.int k (l.getD i 0)) w := by
      intro l
      have hagg : (isAgg e).run P w = .ok false w := by unfold isAgg; rw [Sem.run_bind, run_underlying he w]; simp
      simp [part, Sem.run_bind, hagg, hi]
    simp only [Op.eqItems, Sem.run_bind, hp, Result.andThen_ok, run_equalIn_int w d e k q _ _ he]
    rw [beqD]
    by_cases hab : a.getD i 0 = b.getD i 0
    · simp only [hab, decide_true, Bool.not_true, Bool.false_eq_true, if_false, List.all_cons, Bool.true_and]
      exact run_eqItems_ints he h1 d r (fun j hj => h j (by simp [hj]))
    · simp only [hab, decide_false, Bool.not_false, if_true, List.all_cons, Bool.false_and, Sem.run_pure]

theorem getC_ex {l : List AV} {off sz : Nat} {sh : Sh} {v : AV} {cs : List Value} {t : TypeId} (hs : shOf P t = some (sh, sz)) (h : VRs E l cs) (hg : getC l off sz sh = some v) :
    ∃ c, (part t cs.toArray off).run P w = .ok c w ∧ TV E v c := by
  obtain ⟨c, hr, hc⟩ := run_part (w := w) hs (getC_len h hg)
  exact ⟨c, hr, getC_ok h hg hc⟩
mutual
theorem eqV_ok : ∀ (et : ET) (t : TypeId) (x y : AV) (c d : Value) (b : Bool) (D : Nat), et.rk ≤ D → etOK P et t = true → TV E x c → TV E y d → eqV et x y = some b → (Op.equalIn (D + 1) t c d).run P w = .ok b w
  | .scI, t, x, y, c, d, b, D, hD, ht, hx, hy, h => by
    simp only [eqV] at h
    simp only [etOK] at ht
    split at h
    · split at h
      · rename_i e; subst e
        injection h with h; subst h
        simp only [TV_int] at hx hy; subst hx; subst hy
        split at ht
        · rename_i hu; rw [run_equalIn_int w D t _ _ _ _ hu, beqD]
        · cases ht
      · cases h
    · cases h
  | .scB, t, x, y, c, d, b, D, hD, ht, hx, hy, h => by
    simp only [eqV] at h
    simp only [etOK] at ht
    split at h
    · injection h with h; subst h
      simp only [TV_bool] at hx hy; subst hx; subst hy
      split at ht
      · rename_i hu; rw [run_equalIn_bool' w D t _ _ hu]
      · cases ht
    · cases h
  | .scS, t, x, y, c, d, b, D, hD, ht, hx, hy, h => by
    simp only [eqV] at h
    simp only [etOK] at ht
    split at h
    · injection h with h; subst h
      simp only [TV_str] at hx hy; subst hx; subst hy
      split at ht
      · rename_i hu; rw [run_equalIn_string w D t _ _ hu, beqD]
      · cases ht
    · cases h
  | .ia n, t, x, y, c, d, b, D, hD, ht, hx, hy, h => by
    simp only [eqV] at h
    simp only [etOK] at ht
    split at h
    · rename_i k m xs k' m' ys
      split at h
      · rename_i e; obtain ⟨rfl, rfl, rfl⟩ := e
        injection h with h; subst h
        rw [TV_iarr] at hx hy
        subst hx; subst hy
        split at ht
        · rename_i m2 e hu
          simp only [Bool.and_eq_true, beq_iff_eq] at ht
          obtain ⟨rfl, ht⟩ := ht
          split at ht
          · rename_i q j hq hj
            simp only [ET.rk] at hD
            obtain ⟨D', rfl⟩ : ∃ D', D = D' + 1 := ⟨D - 1, by omega⟩
            have h1 : P.cellsOf e = 1 := by simp [Program.cellsOf, hj]; simpa using ht
            rw [run_equalIn_array w (D' + 1) _ _ hu hj, h1]
            exact run_eqItems_ints hq h1 D' (List.range m2) (fun i hi => by simpa using hi)
          · cases ht
        · cases ht
      · cases h
    · cases h
  | .st fs, t, x, y, c, d, b, D, hD, ht, hx, hy, h => by
    simp only [eqV] at h
    simp only [etOK] at ht
    split at h
    · rename_i xs ys
      obtain ⟨cs, hcs, rfl⟩ := TV_agg.1 hx
      obtain ⟨ds, hds, rfl⟩ := TV_agg.1 hy
      split at ht
      · rename_i gs hu
        simp only [Bool.and_eq_true, Bool.not_eq_true'] at ht
        have hf : P.fieldsOf t = gs := by simp [Program.fieldsOf, hu]
        rw [run_equalIn_struct w D t _ _ (by rw [hf]; exact hu) ht.1, hf]
        simp only [ET.rk] at hD
        exact eqF_ok fs gs.toList xs ys cs ds b D (by omega) ht.2 hcs hds h
      · cases ht
    · cases h
  | .ar _ _ _ _, t, x, y, c, d, b, D, hD, ht, hx, hy, h => by simp [eqV] at h
theorem eqF_ok : ∀ (fs : List (Nat × Nat × Sh × ET)) (gs : List Field) (a b : List AV) (cs ds : List Value) (r : Bool) (D : Nat), ET.rkF fs ≤ D → etFs P fs gs = true → VRs E a cs → VRs E b ds → eqF fs a b = some r →
    (Op.eqFields D cs.toArray ds.toArray gs).run P w = .ok r w
  | [], [], a, b, cs, ds, r, D, hD, ht, ha, hb, h => by simp only [eqF] at h; injection h with h; subst h; rfl
  | [], _ :: _, a, b, cs, ds, r, D, hD, ht, ha, hb, h => by simp [etFs] at ht
  | _ :: _, [], a, b, cs, ds, r, D, hD, ht, ha, hb, h => by simp [etFs] at ht
  | (off, sz, sh, et) :: fs, f :: gs, a, b, cs, ds, r, D, hD, ht, ha, hb, h => by
    simp only [etFs, Bool.and_eq_true, beq_iff_eq] at ht
    obtain ⟨⟨⟨⟨h1, rfl⟩, h3⟩, h4⟩, h5⟩ := ht
    simp only [eqF] at h
    simp only [ET.rkF] at hD
    have hpos : ∀ l, 1 ≤ ET.rkF l := by
      intro l
      induction l with
      | nil => simp [ET.rkF]
      | cons q r ih => obtain ⟨_, _, _, t⟩ := q; simp only [ET.rkF]; omega
    have := hpos fs
    split at h
    · rename_i x y hgx hgy
      split at h
      · rename_i p q hp hq
        injection h with h; subst h
        obtain ⟨c, hr1, hc⟩ := getC_ex (w := w) h3 ha hgx
        obtain ⟨d, hr2, hd⟩ := getC_ex (w := w) h3 hb hgy
        obtain ⟨D', rfl⟩ : ∃ D', D = D' + 1 := ⟨D - 1, by omega⟩
        have e1 := eqV_ok et f.type x y c d p D' (by omega) h4 hc hd hp
        have e2 := eqF_ok fs gs a b cs ds q (D' + 1) (by omega) h5 ha hb hq
        have hname : f.name ≠ "_" := by simpa using h1
        simp only [Op.eqFields, if_pos hname, Sem.run_bind, hr1, hr2, Result.andThen_ok, e1]
        cases p
        · simp
        · simpa using e2
      · cases h
    · cases h
end

def aeq (et : ET) (neg : Bool) (x y : AV) (K : AV → Prop) : Prop :=
  match eqV et x y with
  | some b => K (.bool (if neg then !b else b))
  | none => False
theorem eq_ok {et : ET} {t : TypeId} {neg : Bool} {X Y : Operand} {x y : AV} {c d : Value} (hR : Rep E A w) (hrk : et.rk ≤ 9999) (ht : etOK P et t = true) (hg : P.eqGuardType P.depth t = false)
    (hx : TV E x c) (hy : TV E y d) (h : aeq et neg x y fun v => K v A) :
    ResV E A w K ((do pure (Next.value (← (do eqGuard (if neg then .neq else .eql) t X Y c d; binOp (if neg then .neq else .eql) t c d))) : Sem Next).run P w) := by
  unfold aeq at h
  split at h
  · rename_i b hb
    have he := eqV_ok (w := w) et t x y c d b 9999 hrk ht hx hy hb
    have main : ∀ op, (op = .eql ∨ op = .neq) → (do eqGuard op t X Y c d; binOp op t c d : Sem Value).run P w = .ok (.bool (if op = .neq then !b else b)) w := by
      intro op hop
      cases et with
      | scI =>
        simp only [eqV] at hb
        split at hb
        · split at hb
          · rename_i e; subst e
            injection hb with hb; subst hb
            simp only [TV_int] at hx hy; subst hx; subst hy
            rw [Sem.run_bind, guardI]
            rcases hop with rfl | rfl <;> simp [binOp, Op.intCmp, beqD, bne]
          · cases hb
        · cases hb
      | scB =>
        simp only [eqV] at hb
        split at hb
        · injection hb with hb; subst hb
          simp only [TV_bool] at hx hy; subst hx; subst hy
          rw [Sem.run_bind, guardB]
          have he' : (Op.equal t (.bool _) (.bool _)).run P w = _ := he
          rcases hop with rfl | rfl <;> simp [binOp, Sem.run_bind, he']
        · cases hb
      | scS =>
        simp only [eqV] at hb
        split at hb
        · injection hb with hb; subst hb
          simp only [TV_str] at hx hy; subst hx; subst hy
          rw [Sem.run_bind, guardS]
          rcases hop with rfl | rfl <;> simp [binOp, Op.stringOp, beqD]
        · cases hb
      | ia n =>
        simp only [eqV] at hb
        split at hb
        · rw [TV_iarr] at hx hy
          subst hx; subst hy
          rw [Sem.run_bind, run_eqGuard_agg w op t X Y _ _ hg]
          rcases hop with rfl | rfl
          · simp only [Result.andThen_ok, run_eql_struct]
            rw [show (10000 : Nat) = 9999 + 1 from rfl, he]; simp
          · simp only [Result.andThen_ok, run_neq_struct]
            rw [show (10000 : Nat) = 9999 + 1 from rfl, he]; simp
        · cases hb
      | st fs =>
        simp only [eqV] at hb
        split at hb
        · obtain ⟨cs, hcs, rfl⟩ := TV_agg.1 hx
          obtain ⟨ds, hds, rfl⟩ := TV_agg.1 hy
          rw [Sem.run_bind, run_eqGuard_agg w op t X Y _ _ hg]
          rcases hop with rfl | rfl
          · simp only [Result.andThen_ok, run_eql_struct]
            rw [show (10000 : Nat) = 9999 + 1 from rfl, he]; simp
          · simp only [Result.andThen_ok, run_neq_struct]
            rw [show (10000 : Nat) = 9999 + 1 from rfl, he]; simp
        · cases hb
      | ar _ _ _ _ => simp [eqV] at hb
    cases neg
    · have := main .eql (.inl rfl)
      simp only [Bool.false_eq_true, if_false] at h ⊢
      rw [Sem.run_bind, this]
      simp only [Result.andThen_ok, Sem.run_pure]
      exact Res.val hR h (TV_bool.2 (by simp))
    · have := main .neq (.inr rfl)
      simp only [if_true] at h ⊢
      rw [Sem.run_bind, this]
      simp only [Result.andThen_ok, Sem.run_pure]
      exact Res.val hR h (TV_bool.2 (by simp))
  · exact h.elim

/-! ### small operations -/
def aconv (k : IntKind) (x : AV) (K : AV → Prop) : Prop :=
  match x with
  | .int _ n => K (.int k (k.wrap n))
  | _ => False
theorem conv_ok {s t : TypeId} {k : IntKind} {x : AV} {c : Value} (hR : Rep E A w) (hs : (P.underlying s).isSome = true) (ht : P.underlying t = some (.int k)) (hx : TV E x c)
    (h : aconv k x fun v => K v A) :
    ResV E A w K ((do pure (Next.value (← convert s t c)) : Sem Next).run P w) := by
  unfold aconv at h
  split at h
  · rename_i k' n
    simp only [TV_int] at hx; subst hx
    obtain ⟨u, hu⟩ := Option.isSome_iff_exists.1 hs
    have : (convert s t (.int k' n)).run P w = .ok (.int k (k.wrap n)) w := by
      simp only [convert, Sem.run_bind, run_underlying hu, run_underlying ht, Result.andThen_ok]
      cases u <;> rfl
    simp only [Sem.run_bind, this, Result.andThen_ok, Sem.run_pure]
    exact Res.val hR h (TV_int.2 rfl)
  · exact h.elim
theorem TVl_get {l : List AV} : ∀ {cs : List Value} {i : Nat} {v : AV}, TVl E l cs → l[i]? = some v → ∃ c, cs[i]? = some c ∧ TV E v c := by
  induction l with
  | nil => intro cs i v _ h; simp at h
  | cons x r ih =>
    intro cs i v h hv
    obtain ⟨c, cr, rfl, hc, hr⟩ := TVl_cons.1 h
    cases i with
    | zero => simp at hv; subst hv; exact ⟨c, rfl, hc⟩
    | succ i => simp at hv; simpa using ih hr hv
def aext (i : Nat) (x : AV) (K : AV → Prop) : Prop :=
  match x with
  | .tuple l => match l[i]? with
    | some v => K v
    | none => False
  | _ => False
theorem ext_ok {i : Nat} {x : AV} {c : Value} (hR : Rep E A w) (hx : TV E x c) (h : aext i x fun v => K v A) :
    ResV E A w K ((do pure (Next.value (← Instr.extract c i)) : Sem Next).run P w) := by
  unfold aext at h
  split at h
  · rename_i l
    split at h
    · rename_i v hv
      obtain ⟨xs, rfl, hl⟩ := TV_tuple.1 hx
      obtain ⟨d, hd, ht⟩ := TVl_get hl hv
      have : (Instr.extract (.tuple xs) i).run P w = .ok d w := by
        simp at hd
        simp [Instr.extract, hd]
      simp only [Sem.run_bind, this, Result.andThen_ok, Sem.run_pure]
      exact Res.val hR h ht
    · exact h.elim
  · exact h.elim
def apick (c a b : AV) (K : AV → Prop) : Prop :=
  match c with
  | .bool t => K (if t then a else b)
  | _ => False
theorem pick_ok {x a b : AV} {c d f : Value} (hR : Rep E A w) (hx : TV E x c) (ha : TV E a d) (hb : TV E b f) (h : apick x a b fun v => K v A) :
    ResV E A w K ((do pure (Next.value (if ← asBool c then d else f)) : Sem Next).run P w) := by
  unfold apick at h
  split at h
  · rename_i t
    simp only [TV_bool] at hx; subst hx
    simp only [Sem.run_bind, asBool, Sem.run_pure, Result.andThen_ok]
    cases t
    · exact Res.val hR h (by simpa using hb)
    · exact Res.val hR h (by simpa using ha)
  · exact h.elim
end
end AVL
