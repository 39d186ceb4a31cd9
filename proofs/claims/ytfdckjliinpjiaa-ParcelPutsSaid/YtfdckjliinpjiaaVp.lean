/- Functions. -/
import Derived.Test.YtfdckjliinpjiaaVo
import Derived.Recover
namespace AVL
open Go
set_option linter.unusedSimpArgs false
set_option linter.unusedVariables false

inductive ARes where
  | tmp (t : Nat)
  | cell (t : Nat) (sh : Sh) (sz : Nat)
structure AFunc where
  res : List ARes
  body : ACode

def aress (env : AEnv) (A : Heap) : List ARes → (List AV → Prop) → Prop
  | [], K => K []
  | .tmp t :: r, K => aress env A r fun vs => K (env t :: vs)
  | .cell t sh sz :: r, K => aload sh sz (env t) A fun v _ => aress env A r fun vs => K (v :: vs)
def outOf : List AV → AV
  | [v] => v
  | vs => .tuple vs
/-- The environment at a function's entry. -/
def env0 (args : List AV) : AEnv := fun i => args.getD i .undef
def fpost (res : List ARes) (K : AOut → Heap → Prop) : APost := fun e env A => match e with
  | .normal => aress env A res fun vs => ∃ B : Heap, B.Sub A ∧ K (.ret (outOf vs)) B
  | .ret => aress env A res fun vs => ∃ B : Heap, B.Sub A ∧ K (.ret (outOf vs)) B
  | .pan v => ∃ B : Heap, B.Sub A ∧ K (.pan v) B
  | .exit _ => False

def trRes (P : Program) : List ResultVar → Option (List ARes)
  | [] => some []
  | .tmp t :: r => (trRes P r).map (.tmp t :: ·)
  | .cell a t :: r => match shOf P t, trRes P r with
    | some (sh, sz), some l => some (.cell a sh sz :: l)
    | _, _ => none
def trF (P : Program) (fn : Func) : Option AFunc :=
  match fn.body with
  | some c => match trRes P fn.results.toList, trC P fn.ntmps c with
    | some r, some b => some { res := r, body := b }
    | _, _ => none
  | none => none

/-- A result as the machine reads it. -/
def resV (tmps : Array Value) : ResultVar → Sem Value
  | .tmp t => pure (tmps.getD t undef)
  | .cell a t => do loadVar t (← asAddr (tmps.getD a undef))
section
variable {P : Program}
theorem aress_ok {E : Emb} {A : Heap} {w : World} {env : AEnv} {a : Act} (hR : Rep E A w) (he : EnvR E env a) : ∀ (rs : List ResultVar) (ars : List ARes) (K : List AV → Prop), trRes P rs = some ars → aress env A ars K →
    ∃ vs cs, K vs ∧ (rs.mapM (resV a.tmps)).run P w = .ok cs w ∧ TVl E vs cs
  | [], ars, K, ht, h => by
    simp only [trRes] at ht; injection ht with ht; subst ht
    exact ⟨[], [], h, rfl, TVl_nil.2 rfl⟩
  | .tmp t :: r, ars, K, ht, h => by
    simp only [trRes] at ht
    obtain ⟨l, hl, rfl⟩ := opt_map ht
    simp only [aress] at h
    obtain ⟨vs, cs, hk, hr, hT⟩ := aress_ok hR he r l _ hl h
    refine ⟨_, a.tmps.getD t undef :: cs, hk, ?_, TVl_cons.2 ⟨_, _, rfl, he t, hT⟩⟩
    simp only [List.mapM_cons, Sem.run_bind, resV, Sem.run_pure, Result.andThen_ok]
    rw [hr]; rfl
  | .cell b t :: r, ars, K, ht, h => by
    simp only [trRes] at ht
    split at ht
    · rename_i sh sz l hs hl
      injection ht with ht; subst ht
      simp only [aress] at h
      obtain ⟨ad, v, d, hc, hrun, hv, h⟩ := load_run hR hs (he b) h
      obtain ⟨vs, cs, hk, hr, hT⟩ := aress_ok hR he r l _ hl h
      refine ⟨_, d :: cs, hk, ?_, TVl_cons.2 ⟨_, _, rfl, hv, hT⟩⟩
      have h1 : (resV a.tmps (.cell b t)).run P w = .ok d w := by simp only [resV, hc, asAddr, Sem.run_bind, Sem.run_pure, Result.andThen_ok, hrun]
      simp only [List.mapM_cons, Sem.run_bind, h1, Result.andThen_ok, hr, Sem.run_pure]
    · cases ht

theorem run_results {fn : Func} {a : Act} {w : World} {cs : List Value} (h : (fn.results.toList.mapM (resV a.tmps)).run P w = .ok cs w) :
    (results fn a.tmps).run P w = .ok (if h : cs.toArray.size = 1 then cs.toArray[0] else .tuple cs.toArray) w := by
  have e : results fn a.tmps = (do
      let vs ← fn.results.mapM (resV a.tmps)
      pure (if h : vs.size = 1 then vs[0] else .tuple vs)) := by
    unfold results
    congr 1
  rw [e, Array.mapM_eq_mapM_toList]
  show (((fn.results.toList.mapM (resV a.tmps) >>= (pure ∘ List.toArray)) : Sem (Array Value)) >>= fun vs => pure (if h : vs.size = 1 then vs[0] else .tuple vs)).run P w = _
  rw [Sem.run_bind, Sem.run_bind, h]
  rfl

theorem out_ok {E : Emb} {vs : List AV} {cs : List Value} (h : TVl E vs cs) : TV E (outOf vs) (if h : cs.toArray.size = 1 then cs.toArray[0] else .tuple cs.toArray) := by
  match vs, cs, h with
  | [], cs, h =>
    rw [TVl_nil] at h; subst h
    simp [outOf, TV_tuple, TVl_nil]
  | [v], cs, h =>
    obtain ⟨c, cr, rfl, hc, hr⟩ := TVl_cons.1 h
    rw [TVl_nil] at hr; subst hr
    simpa [outOf] using hc
  | v :: v' :: r, cs, h =>
    obtain ⟨c, cr, rfl, hc, hr⟩ := TVl_cons.1 h
    obtain ⟨c', cr', rfl, hc', hr'⟩ := TVl_cons.1 hr
    simp [outOf, TV_tuple]
    exact TVl_cons.2 ⟨_, _, rfl, hc, TVl_cons.2 ⟨_, _, rfl, hc', hr'⟩⟩

theorem env0_ok {E : Emb} {args : List AV} {cargs : Array Value} {D : List Deferred} {n : Nat} (hT : TVl E args cargs.toList) (hn : args.length ≤ n) :
    args.length = cargs.size ∧ EnvR E (env0 args) { tmps := cargs ++ Array.replicate (n - cargs.size) undef, defers := D } := by
  have hlen : args.length = cargs.size := by
    have key : ∀ (l : List AV) (cs : List Value), TVl E l cs → l.length = cs.length := by
      intro l
      induction l with
      | nil => intro cs h; rw [TVl_nil] at h; subst h; rfl
      | cons v r ih =>
        intro cs h
        obtain ⟨c, cr, rfl, _, hr⟩ := TVl_cons.1 h
        simp [ih cr hr]
    simpa using key args cargs.toList hT
  refine ⟨hlen, fun i => ?_⟩
  simp only [env0]
  by_cases hi : i < args.length
  · obtain ⟨c, hc, hv⟩ := TVl_get hT (List.getElem?_eq_getElem hi)
    have e1 : args.getD i .undef = args[i] := by simp [List.getD_eq_getElem?_getD, hi]
    rw [e1]
    have e2 : (cargs ++ Array.replicate (n - cargs.size) undef).getD i undef = c := by
      rw [Array.getD_eq_getD_getElem?, Array.getElem?_append_left (by omega)]
      have : cargs[i]? = some c := by simpa using hc
      rw [this]; rfl
    rw [e2]; exact hv
  · have e1 : args.getD i .undef = .undef := by simp [List.getD_eq_getElem?_getD, List.getElem?_eq_none (Nat.le_of_not_lt hi)]
    rw [e1]
    have hc : cargs.size ≤ i := by omega
    refine TV_undef _ _ ?_
    rw [Array.getD_eq_getD_getElem?, Array.getElem?_append_right hc, Array.getElem?_replicate]
    split <;> rfl
/-- A function's text says what a call of it does. -/
theorem body_of {fn : Func} {af : AFunc} {args : List AV} {A : Heap} {K : AOut → Heap → Prop} (R : APost) (ht : trF P fn = some af) (hn : args.length ≤ fn.ntmps)
    (hRK : ∀ e env A, R e env A → fpost af.res K e env A) (h : aw P af.body R (env0 args) A) : ∀ E w (cargs : Array Value), Rep E A w → TVl E args cargs.toList →
    ∃ c, fn.body = some c ∧ c.wp P (bodyPost P fn fun e w' => ∃ o A' E', K o A' ∧ Rep E' A' w' ∧ E.Le E' ∧ Same w w' ∧ OutR E' o e) { tmps := cargs ++ Array.replicate (fn.ntmps - cargs.size) undef, defers := [] } w := by
  intro E w cargs hR hT
  unfold trF at ht
  split at ht
  · rename_i c hb
    split at ht
    · rename_i rs b hrs hbd
      injection ht with ht; subst ht
      obtain ⟨hlen, he⟩ := env0_ok (D := []) hT hn
      refine ⟨c, hb, wp_mono (aw_ok (D := []) c b hbd _ _ A h E _ w hR he (by simp; omega) rfl) ?_⟩
      rintro e a' w' ⟨ae, env', A', E', hk, hx, hR', he', hE, hS, ha', hd'⟩
      replace hk := hRK _ _ _ hk
      have retcase : aress env' A' rs (fun vs => ∃ B : Heap, B.Sub A' ∧ K (.ret (outOf vs)) B) →
          a'.defers = [] ∧ ∃ v, (results fn a'.tmps).run P w' = .ok v w' ∧ (∃ o A' E', K o A' ∧ Rep E' A' w' ∧ E.Le E' ∧ Same w w' ∧ OutR E' o (.returned v)) := by
        intro hk
        obtain ⟨vs, cs, ⟨B, hB, hk⟩, hr, hT'⟩ := aress_ok hR' he' fn.results.toList rs _ hrs hk
        exact ⟨hd', _, run_results hr, _, B, E', hk, hR'.sub hB, hE, hS, _, rfl, out_ok hT'⟩
      cases ae with
      | normal => cases hx; exact retcase hk
      | ret => cases hx; exact retcase hk
      | exit id => exact hk.elim
      | pan v =>
        obtain ⟨c, rfl, hc⟩ := hx
        obtain ⟨B, hB, hk⟩ := hk
        exact ⟨hd', _, B, E', hk, hR'.sub hB, hE, hS, c, rfl, hc⟩
    · cases ht
  · cases ht
theorem sim_of2 {f : FuncId} {fn : Func} {af : AFunc} {args : List AV} {A : Heap} {K : AOut → Heap → Prop} (R : APost) (hf : P.funcs[f]? = some fn) (ht : trF P fn = some af) (hn : args.length ≤ fn.ntmps)
    (hRK : ∀ e env A, R e env A → fpost af.res K e env A) (h : aw P af.body R (env0 args) A) : SimX P f args A K := fun E w cargs hR hT =>
  let ⟨_, hb, hw⟩ := body_of R ht hn hRK h E w cargs hR hT
  calls_of_wp hf hb hw
/-- What a deferred call does, told by abstract values. -/
def SimD (P : Program) (f : FuncId) (args : List AV) (A : Heap) (K : AOut → Heap → Prop) : Prop :=
  ∀ E w (cargs : Array Value) (u : FrameMode), Rep E A w → TVl E args cargs.toList → CallsD P f cargs u w fun e u' w' => u' = u ∧ ∃ o A' E', K o A' ∧ Rep E' A' w' ∧ E.Le E' ∧ Same w w' ∧ OutR E' o e
theorem simD_of2 {f : FuncId} {fn : Func} {af : AFunc} {args : List AV} {A : Heap} {K : AOut → Heap → Prop} (R : APost) (hf : P.funcs[f]? = some fn) (ht : trF P fn = some af) (hn : args.length ≤ fn.ntmps)
    (hRK : ∀ e env A, R e env A → fpost af.res K e env A) (h : aw P af.body R (env0 args) A) : SimD P f args A K := fun E w cargs u hR hT =>
  let ⟨_, hb, hw⟩ := body_of R ht hn hRK h E w cargs hR hT
  callsD_of_wp hf hb hw
theorem sim_of {f : FuncId} {fn : Func} {af : AFunc} {args : List AV} {A : Heap} {K : AOut → Heap → Prop} (hf : P.funcs[f]? = some fn) (ht : trF P fn = some af) (hn : args.length ≤ fn.ntmps)
    (h : aw P af.body (fpost af.res K) (env0 args) A) : SimX P f args A K := sim_of2 _ hf ht hn (fun _ _ _ h => h) h
theorem aress_mono {env : AEnv} {A : Heap} : ∀ {r : List ARes} {F G : List AV → Prop}, (∀ vs, F vs → G vs) → aress env A r F → aress env A r G
  | [], F, G, hh, h => hh _ h
  | .tmp t :: r, F, G, hh, h => aress_mono (r := r) (fun vs hv => hh _ hv) h
  | .cell t sh sz :: r, F, G, hh, h => by
    simp only [aress] at h ⊢
    obtain ⟨v, h1, _, h3⟩ := (uni_aload sh sz (env t) A).1 _ _ h h
    exact h3 _ (aress_mono (fun vs hv => hh _ hv) h1)
/-- A call that is looked into. -/
def inl (res : List ARes) (K Kp : AV → Heap → Prop) : APost := fun e env A => match e with
  | .normal => aress env A res fun vs => K (outOf vs) A
  | .ret => aress env A res fun vs => K (outOf vs) A
  | .pan v => Kp v A
  | .exit _ => False
theorem inl_post {res : List ARes} {K Kp : AV → Heap → Prop} (e : AEx) (env : AEnv) (A : Heap) (hh : inl res K Kp e env A) : fpost res (outK K Kp) e env A := by
  cases e with
  | normal => exact aress_mono (fun vs hv => ⟨A, fun _ _ h => h, hv⟩) hh
  | ret => exact aress_mono (fun vs hv => ⟨A, fun _ _ h => h, hv⟩) hh
  | exit _ => exact hh.elim
  | pan v => exact ⟨A, fun _ _ h => h, hh⟩
theorem inl_of {f : FuncId} {fn : Func} {af : AFunc} {args : List AV} {A : Heap} {K Kp : AV → Heap → Prop} (hf : P.funcs[f]? = some fn) (ht : trF P fn = some af) (hn : args.length ≤ fn.ntmps)
    (h : aw P af.body (inl af.res K Kp) (env0 args) A) : SimX P f args A (outK K Kp) := sim_of2 _ hf ht hn inl_post h
theorem inlD_of {f : FuncId} {fn : Func} {af : AFunc} {args : List AV} {A : Heap} {K Kp : AV → Heap → Prop} (hf : P.funcs[f]? = some fn) (ht : trF P fn = some af) (hn : args.length ≤ fn.ntmps)
    (h : aw P af.body (inl af.res K Kp) (env0 args) A) : SimD P f args A (outK K Kp) := simD_of2 _ hf ht hn inl_post h
end
end AVL
