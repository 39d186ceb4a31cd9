/- Operations with their slots and guards; regions whose order is open. -/
import Derived.Test.YtfdckjliinpjiaaVr
import Derived.Calls
import Derived.Orders
namespace AVL
open Go
set_option linter.unusedSimpArgs false
set_option linter.unusedVariables false

structure AOper where
  dst : Option Nat
  op : AOp
  g : Option (Nat × Bool)

def put (env : AEnv) (d : Option Nat) (v : AV) : AEnv := match d with
  | some d => upd env d v
  | none => env
/-! ### from the machine's code -/
def trGuard (ops : Array Oper) (g : Option (Nat × Bool)) : Option (Option (Nat × Bool)) :=
  match g with
  | none => some none
  | some (j, want) => match ops[j]? with
    | some o => match o.dst with
      | some d => some (some (d, want))
      | none => none
    | none => none
def inB (n : Nat) : Option Nat → Bool
  | some d => decide (d < n)
  | none => true
def inG (n : Nat) : Option (Nat × Bool) → Bool
  | some (s, _) => decide (s < n)
  | none => true
def trOper (P : Program) (n : Nat) (ops : Array Oper) (o : Oper) : Option AOper :=
  match trOp P o.op, trGuard ops o.guard with
  | some ao, some g => if inB n o.dst = true ∧ inG n g = true then some { dst := o.dst, op := ao, g } else none
  | _, _ => none
def trOpers (P : Program) (n : Nat) (ops : Array Oper) : List Oper → Option (List AOper)
  | [] => some []
  | o :: r => match trOper P n ops o, trOpers P n ops r with
    | some a, some l => some (a :: l)
    | _, _ => none
section
variable {P : Program}

theorem put_ok {E : Emb} {env : AEnv} {a : Act} {n : Nat} (he : EnvR E env a) (ha : a.tmps.size = n) {d : Option Nat} (hd : inB n d = true) {v : AV} {c : Value} (hv : TV E v c) :
    EnvR E (put env d v) (a.put d c) ∧ (a.put d c).tmps.size = n ∧ (a.put d c).defers = a.defers := by
  cases d with
  | none => exact ⟨he, ha, rfl⟩
  | some d =>
    simp only [inB, decide_eq_true_eq] at hd
    exact ⟨he.put hv (by omega), by simp [Act.put, ha], rfl⟩
theorem upd_same {E : Emb} {env : AEnv} {a : Act} (he : EnvR E env a) {s : Nat} {b : Bool} (hs : env s = .bool b) : EnvR E (upd env s (.bool b)) a := by
  intro n
  simp only [upd]
  split
  · rename_i e; subst e; rw [← hs]; exact he n
  · exact he n

theorem TVl_map {E : Emb} {env : AEnv} {a : Act} (he : EnvR E env a) : ∀ (xs : List Operand) (ts : List TypeId) (l : List (Sh × AO)) (vs : List AV), trArgs P xs ts = some l → nrms env l = some vs → TVl E vs (xs.map a.eval)
  | [], [], l, vs, h, hn => by simp only [trArgs] at h; injection h with h; subst h; simp only [nrms] at hn; injection hn with hn; subst hn; exact TVl_nil.2 rfl
  | [], _ :: _, l, vs, h, hn => by simp [trArgs] at h
  | _ :: _, [], l, vs, h, hn => by simp [trArgs] at h
  | x :: xs, t :: ts, l, vs, h, hn => by
    simp only [trArgs] at h
    split at h
    · rename_i ax sh sz r h1 h2 h3
      injection h with h; subst h
      simp only [nrms] at hn
      split at hn
      · rename_i v l' hv hl
        injection hn with hn; subst hn
        exact TVl_cons.2 ⟨_, _, rfl, nrm_ok (ev_ok he h1) hv, TVl_map he xs ts r l' h3 hl⟩
      · cases hn
    · cases h

/-- One operation, calls included. -/
theorem run_boundsP {α : Type} {w : World} (k : IntKind) (x y : Int) :
    ∃ s w', (boundsPanic k x y .index : Sem α).run P w = .halt (.panic (.iface P.rt.boundsError (.agg #[.int .i64 (IntKind.i64.wrap x), .int .i64 y, .bool s, .int .u8 0]))) w' ∧ (w' = w ∨ w' = { w with drawn := w.drawn + 1 }) := by
  unfold boundsPanic
  split
  · refine ⟨(Question.extern "runtime.boundsError.signed" 2).cut (w.tape w.drawn (Question.extern "runtime.boundsError.signed" 2)) == 1, { w with drawn := w.drawn + 1 }, ?_, .inr rfl⟩
    simp [runtimePanic, goPanic, BoundsCode.toNat, Question.forced]
  · refine ⟨k != .u64, w, ?_, .inl rfl⟩
    simp [runtimePanic, goPanic, BoundsCode.toNat]
theorem nil_idx {t e : TypeId} {w : World} (hu : P.underlying t = some (.slice e)) (k : IntKind) (n : Int) :
    ∃ s w', (Instr.indexAt t (.slice none 0 0) (.int k n)).run P w = .halt (.panic (.iface P.rt.boundsError (.agg #[.int .i64 (IntKind.i64.wrap n), .int .i64 0, .bool s, .int .u8 0]))) w' ∧ (w' = w ∨ w' = { w with drawn := w.drawn + 1 }) := by
  obtain ⟨s, w', h1, h2⟩ := run_boundsP (P := P) (α := Value) (w := w) k n 0
  refine ⟨s, w', ?_, h2⟩
  simp only [Instr.indexAt, asIntOf, Sem.run_bind, Sem.run_pure, Result.andThen_ok, run_underlying hu]
  exact h1
theorem TVl_append {E : Emb} : ∀ {l m : List AV} {cs ds : List Value}, TVl E l cs → TVl E m ds → TVl E (l ++ m) (cs ++ ds)
  | [], m, cs, ds, h, h' => by rw [TVl_nil] at h; subst h; simpa using h'
  | v :: r, m, cs, ds, h, h' => by
    obtain ⟨c, cr, rfl, h1, h2⟩ := TVl_cons.1 h
    exact TVl_cons.2 ⟨c, _, rfl, h1, TVl_append h2 h'⟩
theorem oper_ok {o : Oper} {ao : AOp} (ho : trOp P o.op = some ao) {E : Emb} {A : Heap} {w : World} {K Kp : AV → Heap → Prop} {a : Act} {env : AEnv} (hR : Rep E A w) (he : EnvR E env a) (h : aop P ao env A K Kp)
    {next : Act → World → Prop} {Q : Exit → Act → World → Prop}
    (hn : ∀ v A' E' w' c, K v A' → Rep E' A' w' → E.Le E' → Same w w' → TV E' v c → next (a.put o.dst c) w')
    (hp : ∀ v A' E' w' c, Kp v A' → Rep E' A' w' → E.Le E' → Same w w' → TV E' v c → Q (.panic [{ v := c, recovered := false }]) a w') : o.wp P a w next Q := by
  by_cases hc : ∃ f l, ao = .call f l
  · obtain ⟨f, l, rfl⟩ := hc
    have ho : trOp0 P o.op = some (.call f l) := by
      rcases trOp_cases ho with ho | ⟨_, _, _, _, _, e⟩
      · exact ho
      · cases e
    unfold Oper.wp
    cases hop : o.op <;> rw [hop] at ho <;> simp only [trOp0] at ho <;> try (cases ho; done)
    case call c =>
      obtain ⟨callee, args, argTypes⟩ := c
      simp only at ho
      split at ho
      · rename_i f' hcal
        split at ho
        · rename_i hcl
          obtain ⟨l', hl, e⟩ := opt_map ho
          injection e with e1 e2; subst e1; subst e2
          simp only [aop] at h
          split at h
          · rename_i vs hvs
            unfold callable at hcl
            split at hcl
            · rename_i fn hf
              simp only [Bool.and_eq_true] at hcl
              have hbody : ¬ fn.body = none := by
                intro e; rw [e] at hcl; simp at hcl
              have hname : ¬ fn.name = "runtime.NumGoroutine" := by simpa using hcl.2
              have hrun : (execOp a.eval o).run P w = .ok (.enter f (args.map a.eval)) w := by
                simp [execOp, hop, resolve, Deferred.ofValue, Act.eval, invoke, callFunc, hf, hname, hbody]
              rw [hrun]
              simp only [Oper.upon]
              have hT := TVl_map (E := E) he args.toList argTypes.toList l vs hl hvs
              refine (h E w (args.map a.eval) hR (by simpa using hT)).mono ?_
              rintro e w' ⟨out, A', E', hk, hR', hE, hS, hO⟩
              cases out with
              | ret v =>
                obtain ⟨c, rfl, hcv⟩ := hO
                exact hn v A' E' w' c hk hR' hE hS hcv
              | pan v =>
                obtain ⟨c, rfl, hcv⟩ := hO
                exact hp v A' E' w' c hk hR' hE hS hcv
            · cases hcl
          · exact h.elim
        · cases ho
      · obtain ⟨_, _, e⟩ := opt_map ho; cases e
      · rename_i b
        unfold trBuiltin at ho
        repeat' (first | (cases ho; done) | (injection ho with ho; cases ho; done) | split at ho)
      · cases ho
    case slice t x lo hi mx =>
      cases mx <;> simp only [trOp0] at ho <;> (repeat' (first | (cases ho; done) | (injection ho with ho; cases ho; done) | split at ho))
    all_goals (repeat' (first | (cases ho; done) | (injection ho with ho; cases ho; done) | (obtain ⟨_, _, e⟩ := opt_map ho; cases e; done) | split at ho))
  by_cases hc2 : ∃ x l, ao = .callV x l
  · obtain ⟨x, l, rfl⟩ := hc2
    have ho : trOp0 P o.op = some (.callV x l) := by
      rcases trOp_cases ho with ho | ⟨_, _, _, _, _, e⟩
      · exact ho
      · cases e
    unfold Oper.wp
    cases hop : o.op <;> rw [hop] at ho <;> simp only [trOp0] at ho <;> try (cases ho; done)
    case call c =>
      obtain ⟨callee, args, argTypes⟩ := c
      simp only at ho
      split at ho
      · split at ho
        · obtain ⟨_, _, e⟩ := opt_map ho; cases e
        · cases ho
      · rename_i _ t
        obtain ⟨l', hl, e⟩ := opt_map ho
        injection e with e1 e2; subst e1; subst e2
        simp only [aop] at h
        split at h
        · rename_i f first cap vs hx hvs
          obtain ⟨hcl, h⟩ := h
          unfold callable at hcl
          split at hcl
          · rename_i fn hf
            simp only [Bool.and_eq_true] at hcl
            have hbody : ¬ fn.body = none := by
              intro e; rw [e] at hcl; simp at hcl
            have hname : ¬ fn.name = "runtime.NumGoroutine" := by simpa using hcl.2
            have hT := TVl_map (E := E) he args.toList argTypes.toList l vs hl hvs
            have hxt : TV E (.func (.func f) first cap) (a.eval (.tmp t)) := by
              rw [← hx]; exact he t
            rcases hxt with ⟨hn, _⟩ | ⟨_, hxt⟩
            · cases hn
            · simp only [VR] at hxt
              obtain ⟨xs, ys, hv, h1, h2⟩ := hxt
              injection hv with hv
              have hrun : (execOp a.eval o).run P w = .ok (.enter f (xs ++ args.map a.eval ++ ys)) w := by
                simp [execOp, hop, resolve, hv, Deferred.ofValue, invoke, callFunc, hf, hname, hbody]
              rw [hrun]
              simp only [Oper.upon]
              refine (h E w (xs ++ args.map a.eval ++ ys) hR ?_).mono ?_
              · have := TVl_append (TVl_append h1 (by simpa using hT : TVl E vs (args.map a.eval).toList)) h2
                simpa using this
              · rintro e w' ⟨out, A', E', hk, hR', hE, hS, hO⟩
                cases out with
                | ret v =>
                  obtain ⟨c, rfl, hcv⟩ := hO
                  exact hn v A' E' w' c hk hR' hE hS hcv
                | pan v =>
                  obtain ⟨c, rfl, hcv⟩ := hO
                  exact hp v A' E' w' c hk hR' hE hS hcv
          · cases hcl
        · exact h.elim
      · rename_i b
        unfold trBuiltin at ho
        repeat' (first | (cases ho; done) | (injection ho with ho; cases ho; done) | split at ho)
      · cases ho
    case slice t x lo hi mx =>
      cases mx <;> simp only [trOp0] at ho <;> (repeat' (first | (cases ho; done) | (injection ho with ho; cases ho; done) | split at ho))
    all_goals (repeat' (first | (cases ho; done) | (injection ho with ho; cases ho; done) | (obtain ⟨_, _, e⟩ := opt_map ho; cases e; done) | split at ho))
  by_cases hc3 : ∃ x, ao = .pnc x
  · obtain ⟨x, rfl⟩ := hc3
    have ho : trOp0 P o.op = some (.pnc x) := by
      rcases trOp_cases ho with ho | ⟨_, _, _, _, _, e⟩
      · exact ho
      · cases e
    unfold Oper.wp
    cases hop : o.op <;> rw [hop] at ho <;> simp only [trOp0] at ho <;> try (cases ho; done)
    case panic y =>
      obtain ⟨y', hy, e⟩ := opt_map ho
      injection e with e; subst e
      simp only [aop] at h
      split at h
      · rename_i t v hx
        have hy' := ev_ok he hy
        rw [hx] at hy'
        have hyc := hy'
        rcases hy' with ⟨hn, _⟩ | ⟨_, hy'⟩
        · cases hn
        · simp only [VR] at hy'
          obtain ⟨c, hv, _⟩ := hy'
          injection hv with hv
          have hrun : (execOp a.eval o).run P w = .halt (.panic (.iface t c)) w := by
            simp only [execOp, hop, hv, Instr.panic]; rfl
          rw [hrun]
          simp only [Oper.upon]
          rw [hv] at hyc
          exact hp _ A E w _ h hR (Emb.Le.refl E) (Same.refl w) hyc
      · exact h.elim
    case call c =>
      obtain ⟨callee, args, argTypes⟩ := c
      simp only at ho
      split at ho
      · split at ho
        · obtain ⟨_, _, e⟩ := opt_map ho; cases e
        · cases ho
      · obtain ⟨_, _, e⟩ := opt_map ho; cases e
      · rename_i b
        unfold trBuiltin at ho
        repeat' (first | (cases ho; done) | (injection ho with ho; cases ho; done) | split at ho)
      · cases ho
    case slice t x lo hi mx =>
      cases mx <;> simp only [trOp0] at ho <;> (repeat' (first | (cases ho; done) | (injection ho with ho; cases ho; done) | split at ho))
    all_goals (repeat' (first | (cases ho; done) | (injection ho with ho; cases ho; done) | (obtain ⟨_, _, e⟩ := opt_map ho; cases e; done) | split at ho))
  have hnc : ao.acts = false := by
    cases ao <;> first
      | rfl
      | exact absurd ⟨_, _, rfl⟩ hc
      | exact absurd ⟨_, _, rfl⟩ hc2
      | exact absurd ⟨_, rfl⟩ hc3
  by_cases hc4 : ∃ sz x i, ao = .idx sz x i ∧ ev env x = .nilS
  · obtain ⟨sz, x, i, rfl, hx⟩ := hc4
    have ho : trOp0 P o.op = some (.idx sz x i) := by
      rcases trOp_cases ho with ho | ⟨_, _, _, _, _, e⟩
      · exact ho
      · cases e
    unfold Oper.wp
    cases hop : o.op <;> rw [hop] at ho <;> simp only [trOp0] at ho <;> try (cases ho; done)
    case indexAddr t x' i' =>
      split at ho
      · rename_i ax ai h1 h2
        split at ho
        · rename_i e hu
          split at ho
          · rename_i j hj
            injection ho with ho; injection ho with e1 e2 e3; subst e1; subst e2; subst e3
            have hxv := ev_ok he h1
            rw [hx] at hxv
            simp only [TV_nilS] at hxv
            simp only [aop, hx] at h
            have hiv := ev_ok he h2
            generalize ev env ai = iv at h hiv
            cases iv <;> simp only [aint] at h <;> try (exact h.elim)
            rename_i k n
            simp only [TV_int] at hiv
            obtain ⟨s, w', hrun, hw'⟩ := nil_idx (w := w) hu k n
            have hrun' : (execOp a.eval o).run P w = .halt (.panic (.iface P.rt.boundsError (.agg #[.int .i64 (IntKind.i64.wrap n), .int .i64 0, .bool s, .int .u8 0]))) w' := by
              simp only [execOp, hop, hxv, hiv, Sem.run_bind, hrun]; rfl
            rw [hrun']
            simp only [Oper.upon]
            have hT : TV E (.iface P.rt.boundsError (.agg [.int .i64 (IntKind.i64.wrap n), .int .i64 0, .bool s, .int .u8 0])) (.iface P.rt.boundsError (.agg #[.int .i64 (IntKind.i64.wrap n), .int .i64 0, .bool s, .int .u8 0])) := by
              refine .inr ⟨rfl, ?_⟩
              simp only [VR]
              refine ⟨_, rfl, .inl ⟨rfl, [.int .i64 (IntKind.i64.wrap n), .int .i64 0, .bool s, .int .u8 0], ?_, rfl⟩⟩
              simp [VR, VRs]
            rcases hw' with rfl | rfl
            · exact hp _ A E _ _ (h s) hR (Emb.Le.refl E) (Same.refl _) hT
            · refine hp _ A E _ _ (h s) ⟨hR.frm, hR.lt, fun g c hg => (by have := hR.cont g c hg; cases c <;> exact this), hR.sep, hR.low, hR.lon, hR.hid⟩ (Emb.Le.refl E) ⟨rfl, rfl, Nat.le_refl _⟩ hT
          · cases ho
        · split at ho
          · injection ho with ho; cases ho
          · cases ho
      · cases ho
    case call c =>
      obtain ⟨callee, args, argTypes⟩ := c
      simp only at ho
      split at ho
      · split at ho
        · obtain ⟨_, _, e⟩ := opt_map ho; cases e
        · cases ho
      · obtain ⟨_, _, e⟩ := opt_map ho; cases e
      · rename_i b
        unfold trBuiltin at ho
        repeat' (first | (cases ho; done) | (injection ho with ho; cases ho; done) | split at ho)
      · cases ho
    case slice t x lo hi mx =>
      cases mx <;> simp only [trOp0] at ho <;> (repeat' (first | (cases ho; done) | (injection ho with ho; cases ho; done) | split at ho))
    all_goals (repeat' (first | (cases ho; done) | (injection ho with ho; cases ho; done) | (obtain ⟨_, _, e⟩ := opt_map ho; cases e; done) | split at ho))
  exact (op_ok ho hnc (fun sz x i e hx => hc4 ⟨sz, x, i, e, hx⟩) hR he h).upon hn

end

/-! ### regions whose order is open -/
/-- What an operation makes that only makes memory: its value, from the name; the contents. -/
def mkL (o : AOp) (env : AEnv) : Option ((Nat → AV) × Cont) :=
  match o with
  | .alloc t z => some (fun g => .ptr g 0, .var t z)
  | .box t sh x => if good (ev env x) = true then (shp sh (comps (ev env x))).map fun v => (fun g => .ptr g 0, .var t (comps v)) else none
  | .bslI e k xs => match fillAll env .sc 1 xs with
    | some l => (intsOf k l).map fun ys => (fun g => .own g 0 xs.length, .irow e k ys)
    | none => none
  | .bsl e sh sz xs => (fillAll env sh sz xs).map fun l => (fun g => .own g 0 xs.length, .row e sz l)
  | .xx (.mkM k) [] => some (fun g => .map g, .mp k [])
  | _ => none
def AOp.late : AOp → Bool
  | .alloc .. | .box .. | .bslI .. | .bsl .. => true
  | .xx (.mkM _) [] => true
  | _ => false
/-- An empty row. -/
def AOp.empty : AOp → Bool
  | .bslI _ _ [] | .bsl _ _ _ [] => true
  | _ => false
structure DOp where
  o : AOper
  fl : Bool
  st : Bool
  ks : Option (List Nat)
  ls : List Nat
/-- The slots whose names an operation looks up. -/
def AOp.rds : AOp → Option (List Nat)
  | .load _ _ (.t n) => some [n]
  | .idx _ (.t n) _ => some [n]
  | .slc _ (.t n) _ _ => some [n]
  | .xx .bstr [.t n] => some [n]
  | _ => none
def keep1 (v : AV) (A A' : Heap) : Prop := match v with
  | .ptr g _ | .pix g _ _ _ | .pel g _ _ | .own g _ _ | .asl g _ _ _ _ | .map g => A' g = A g
  | _ => True
def keepL : List Nat → AEnv → Heap → Heap → Prop
  | [], _, _, _ => True
  | t :: l, env, A, A' => keep1 (env t) A A' ∧ keepL l env A A'
/-- What was there is there still, so far as it is looked at. -/
def keepC (ks : Option (List Nat)) (env : AEnv) (A A' : Heap) : Prop := A.Sub A' ∨ match ks with
  | none => False
  | some l => keepL l env A A'
def hasD (l : List Nat) : Option Nat → Bool
  | some t => l.contains t
  | none => false
/-- The makers to come that may have run already: that they can. -/
def lsOK (ls : List Nat) : List DOp → AEnv → Prop
  | [], _ => True
  | p :: r, env => (hasD ls p.o.dst = true → p.o.op.late = true → (mkL p.o.op env).isSome = true) ∧ lsOK ls r env

def AOper.uses (o : AOper) : List Nat := o.op.uses ++ (match o.g with
  | some (s, _) => [s]
  | none => [])
def gF (P : Program) (o : AOper) (env : AEnv) (A : Heap) (K : AV → Prop) : Prop :=
  match o.g with
  | none => fl P o.op env A K
  | some (s, want) => match env s with
    | .bool b => (b = want → fl P o.op env A K) ∧ (b = !want → K .undef)
    | .undef => K .undef
    | _ => False
def gC (P : Program) (o : AOper) (env : AEnv) (A : Heap) (K Kp : AV → Heap → Prop) : Prop :=
  match o.g with
  | none => aop P o.op env A K Kp
  | some (s, want) => match env s with
    | .bool b => (b = want → aop P o.op env A K Kp) ∧ (b = !want → K .undef A)
    | .undef => K .undef A
    | _ => False
def awD (P : Program) : List DOp → (AEnv → Heap → Prop) → (AV → Heap → Prop) → AEnv → Heap → Prop
  | [], K, _, env, A => K env A
  | d :: r, K, Kp, env, A => match d.fl with
    | true => gF P d.o env A (fun v => awD P r K Kp (put env d.o.dst v) A)
    | false => lsOK d.ls r env ∧ gC P d.o env A (fun v A' => (d.st = true → keepC d.ks env A A') ∧ awD P r K Kp (put env d.o.dst v) A') Kp

def indep (d e : AOper) : Bool :=
  (match d.dst with
   | some t => !(e.uses.contains t) && (e.dst != some t)
   | none => true) &&
  (match e.dst with
   | some t => !(d.uses.contains t)
   | none => true)

section
variable {P : Program}
theorem put_ne {env : AEnv} {d : Option Nat} {v : AV} {t : Nat} (h : d ≠ some t) : put env d v t = env t := by
  cases d with
  | none => rfl
  | some x => simp only [put, upd]; rw [if_neg]; exact fun e => h (by rw [e])
theorem put_comm {env : AEnv} {d e : Option Nat} {v u : AV} (h : ∀ t, d = some t → e ≠ some t) : put (put env d v) e u = put (put env e u) d v := by
  cases d with
  | none => rfl
  | some x =>
    cases e with
    | none => rfl
    | some y =>
      have hne : y ≠ x := fun e => h x rfl (by rw [e])
      funext t
      simp only [put, upd]
      by_cases h1 : t = y
      · subst h1; simp [hne]
      · simp [h1]
theorem indep_spec {d e : AOper} (h : indep d e = true) : (∀ t, d.dst = some t → t ∉ e.uses) ∧ (∀ t, d.dst = some t → e.dst ≠ some t) ∧ (∀ t, e.dst = some t → t ∉ d.uses) := by
  unfold indep at h
  simp only [Bool.and_eq_true] at h
  obtain ⟨h1, h2⟩ := h
  refine ⟨fun t ht => ?_, fun t ht => ?_, fun t ht => ?_⟩
  · rw [ht] at h1; simp at h1; exact h1.1
  · rw [ht] at h1; simp at h1; exact h1.2
  · rw [ht] at h2; simp at h2; exact h2

theorem gF_congr {o : AOper} {env env' : AEnv} {A : Heap} {K : AV → Prop} (h : ∀ t ∈ o.uses, env t = env' t) : gF P o env A K = gF P o env' A K := by
  have h1 : fl P o.op env A K = fl P o.op env' A K := aop_congr fun t ht => h t (by simp [AOper.uses, ht])
  unfold gF
  cases hg : o.g with
  | none => exact h1
  | some sw =>
    obtain ⟨s, want⟩ := sw
    have : env s = env' s := h s (by simp [AOper.uses, hg])
    simp only [this, h1]
theorem gC_congr {o : AOper} {env env' : AEnv} {A : Heap} {K Kp : AV → Heap → Prop} (h : ∀ t ∈ o.uses, env t = env' t) : gC P o env A K Kp = gC P o env' A K Kp := by
  have h1 : aop P o.op env A K Kp = aop P o.op env' A K Kp := aop_congr fun t ht => h t (by simp [AOper.uses, ht])
  unfold gC
  cases hg : o.g with
  | none => exact h1
  | some sw =>
    obtain ⟨s, want⟩ := sw
    have : env s = env' s := h s (by simp [AOper.uses, hg])
    simp only [this, h1]
theorem gF_uni {o : AOper} (ho : o.op.floats = true) (env : AEnv) (A : Heap) : Uni (gF P o env A) := by
  unfold gF
  cases o.g with
  | none => exact fl_uni o.op ho env A
  | some sw =>
    obtain ⟨s, want⟩ := sw
    simp only
    cases env s <;> first | exact Uni.no (fun K h => h) | skip
    · exact Uni.leaf _
    rename_i b
    have hu := fl_uni (P := P) o.op ho env A
    refine ⟨fun K₁ K₂ h₁ h₂ => ?_⟩
    by_cases hb : b = want
    · obtain ⟨v, a, c, g⟩ := hu.out K₁ K₂ (h₁.1 hb) (h₂.1 hb)
      exact ⟨v, a, c, fun K hk => ⟨fun _ => g K hk, fun hn => by subst hb; simp at hn⟩⟩
    · have hn : b = !want := by cases b <;> cases want <;> simp_all
      exact ⟨.undef, h₁.2 hn, h₂.2 hn, fun K hk => ⟨fun h => absurd h hb, fun _ => hk⟩⟩
theorem gC_mono {o : AOper} (ho : o.op.floats = false) {env : AEnv} {A : Heap} {K K' Kp : AV → Heap → Prop} (hk : ∀ v A', K v A' → K' v A') (h : gC P o env A K Kp) : gC P o env A K' Kp := by
  unfold gC at h ⊢
  cases hg : o.g with
  | none => rw [hg] at h; exact aop_mono ho hk (fun _ _ h => h) h
  | some sw =>
    obtain ⟨s, want⟩ := sw
    rw [hg] at h
    simp only at h ⊢
    cases hs : env s <;> rw [hs] at h <;> first | exact h.elim | skip
    · exact hk _ _ h
    exact ⟨fun e => aop_mono ho hk (fun _ _ h => h) (h.1 e), fun e => hk _ _ (h.2 e)⟩


theorem aload_sub {sh : Sh} {sz : Nat} {p : AV} {A A' : Heap} {K : AV → Prop} (hs : A.Sub A') (h : aload sh sz p A fun v _ => K v) : aload sh sz p A' fun v _ => K v := by
  have key : ∀ g, (∃ c, A g = some c) → A' g = A g := fun g ⟨c, hc⟩ => by rw [hc, hs g c hc]
  cases p <;> try exact h
  case ptr g o => rw [aload, key g (by cases hA : A g with | none => simp only [aload, hA] at h | some c => exact ⟨c, rfl⟩)]; exact h
  case pix g o m i => rw [aload, key g (by cases hA : A g with | none => simp only [aload, hA] at h | some c => exact ⟨c, rfl⟩)]; exact h
  case pel g i o => rw [aload, key g (by cases hA : A g with | none => simp only [aload, hA] at h | some c => exact ⟨c, rfl⟩)]; exact h
theorem srcI_sub {k : IntKind} {s : AV} {A A' : Heap} {Q : List Int → Prop} (hs : A.Sub A') (h : srcI k s A Q) : srcI k s A' Q := by
  cases s <;> try exact h
  case own g i n =>
    simp only [srcI] at h ⊢
    cases hA : A g with
    | none => rw [hA] at h; exact h.elim
    | some c => rw [hs g c hA]; rw [hA] at h; exact h
  case asl g o m i n =>
    simp only [srcI] at h ⊢
    cases hA : A g with
    | none => rw [hA] at h; exact h.elim
    | some c => rw [hs g c hA]; rw [hA] at h; exact h
theorem xop_sub {o : XOp} (ho : o.floats = true) {xs : List AV} {A A' : Heap} {K : AV → Prop} (hs : A.Sub A' ∨ o.reads = false) (h : xop o xs A fun v _ => K v) : xop o xs A' fun v _ => K v := by
  cases o <;> simp only [XOp.floats, Bool.false_eq_true] at ho
  case p po => exact h
  case bstr =>
    match xs with
    | [] => exact h
    | [x] => exact ⟨h.1, srcI_sub (hs.elim id (fun e => by cases e)) h.2⟩
    | _ :: _ :: _ => exact h
  case idxV =>
    match xs with
    | [] => exact h
    | [_] => exact h
    | [x, i] => cases i <;> exact h
    | _ :: _ :: _ :: _ => exact h
theorem fl_sub {o : AOp} (ho : o.floats = true) {env : AEnv} {A A' : Heap} {K : AV → Prop} (hs : A.Sub A') (h : fl P o env A K) : fl P o env A' K := by
  cases o <;> simp only [AOp.floats, Bool.false_eq_true] at ho <;> try exact h
  case load sh sz p => exact aload_sub hs h
  case xx => exact xop_sub ho (.inl hs) h
  case idx sz x i =>
    simp only [fl, aop] at h ⊢
    generalize ev env i = iv at h ⊢
    cases iv <;> try exact h
    simp only [aint] at h ⊢
    generalize ev env x = xv at h ⊢
    cases xv <;> try exact h
    rename_i g i0 n
    simp only [aidxP, aidx] at h ⊢
    obtain ⟨h1, h2⟩ := h
    refine ⟨?_, h2⟩
    cases hA : A g with
    | none => rw [hA] at h1; exact h1.elim
    | some c => rw [hs g c hA]; rw [hA] at h1; exact h1
  case slc sz x lo hi =>
    simp only [fl, aop] at h ⊢
    obtain ⟨h1, h2⟩ := h
    generalize ev env x = xv at h1 h2 ⊢
    refine ⟨?_, ?_⟩
    · cases xv <;> try exact h1
      rename_i g i0 n
      simp only [szOK] at h1 ⊢
      cases hA : A g with
      | none => rw [hA] at h1; exact h1.elim
      | some c => rw [hs g c hA]; rw [hA] at h1; exact h1
    · cases xv <;> exact h2
theorem fl_noread {o : AOp} (ho : o.floats = true) (hr : o.reads = false) {env : AEnv} {A A' : Heap} {K : AV → Prop} (h : fl P o env A K) : fl P o env A' K := by
  cases o <;> simp only [AOp.floats, Bool.false_eq_true] at ho <;> simp only [AOp.reads, Bool.true_eq_false] at hr
  case xx => exact xop_sub ho (.inr hr) h
  case field => simp only [fl, aop] at h ⊢; generalize ev env _ = xv at h ⊢; cases xv <;> exact h
  case fadr => simp only [fl, aop] at h ⊢; generalize ev env _ = xv at h ⊢; cases xv <;> exact h
  case idxA m sz ints x i =>
    simp only [fl, aop] at h ⊢
    generalize ev env i = iv at h ⊢
    cases iv <;> exact h
  case slcA => simp only [fl, aop] at h ⊢; generalize ev env _ = xv at h ⊢; cases xv <;> exact h
  case s2a => simp only [fl, aop] at h ⊢; generalize ev env _ = xv at h ⊢; cases xv <;> exact h
  all_goals exact h
theorem gF_to {o : AOper} (ho : o.op.floats = true) {env : AEnv} {A A' : Heap} {K : AV → Prop} (hs : A.Sub A' ∨ o.op.reads = false) (h : gF P o env A K) : gF P o env A' K := by
  have key : fl P o.op env A K → fl P o.op env A' K := fun h => hs.elim (fun s => fl_sub ho s h) (fun r => fl_noread ho r h)
  unfold gF at h ⊢
  cases hg : o.g with
  | none => rw [hg] at h; exact key h
  | some sw =>
    obtain ⟨s, want⟩ := sw
    rw [hg] at h
    simp only at h ⊢
    cases hs : env s <;> rw [hs] at h <;> first | exact h.elim | skip
    · exact h
    exact ⟨fun e => key (h.1 e), h.2⟩

/-- A floating operation is carried out ahead of floating ones. -/
theorem pull_fl {K : AEnv → Heap → Prop} {Kp : AV → Heap → Prop} {d : DOp} {post : List DOp} (hd : d.fl = true) (hdf : d.o.op.floats = true) {A : Heap} : ∀ (pre : List DOp) (env : AEnv), (∀ e ∈ pre, e.fl = true ∧ e.o.op.floats = true ∧ indep d.o e.o = true) →
    awD P (pre ++ d :: post) K Kp env A → ∃ v0, (∀ K' : AV → Prop, K' v0 → gF P d.o env A K') ∧ awD P (pre ++ post) K Kp (put env d.o.dst v0) A
  | [], env, hp, h => by
    simp only [List.nil_append, awD, hd] at h ⊢
    obtain ⟨v, h1, _, g⟩ := (gF_uni hdf env A).out _ _ h h
    exact ⟨v, g, h1⟩
  | e :: pre, env, hp, h => by
    obtain ⟨hef, heo, hind⟩ := hp e (by simp)
    obtain ⟨i1, i2, i3⟩ := indep_spec hind
    simp only [List.cons_append, awD, hef] at h ⊢
    obtain ⟨ve, h1, _, g⟩ := (gF_uni heo env A).out _ _ h h
    have cd : ∀ t ∈ d.o.uses, put env e.o.dst ve t = env t := fun t ht => put_ne fun e' => i3 t e' ht
    obtain ⟨v0, G, h2⟩ := pull_fl hd hdf pre (put env e.o.dst ve) (fun x hx => hp x (by simp [hx])) h1
    refine ⟨v0, fun K' hk => by rw [← gF_congr cd]; exact G K' hk, ?_⟩
    have ce : ∀ t ∈ e.o.uses, put env d.o.dst v0 t = env t := fun t ht => put_ne fun e' => i1 t e' ht
    rw [gF_congr ce]
    refine g _ ?_
    rw [put_comm (fun t ht => i2 t ht)]
    exact h2

theorem keepL_get {env : AEnv} {A A' : Heap} : ∀ {l : List Nat}, keepL l env A A' → ∀ n ∈ l, keep1 (env n) A A'
  | t :: l, h, n, hn => by
    rcases List.mem_cons.1 hn with rfl | hn
    · exact h.1
    · exact keepL_get h.2 n hn
theorem aload_keep {sh : Sh} {sz : Nat} {p : AV} {A A' : Heap} {K : AV → Prop} (hk : keep1 p A A') (h : aload sh sz p A fun v _ => K v) : aload sh sz p A' fun v _ => K v := by
  cases p <;> try exact h
  case ptr g o => have hk' : A' g = A g := hk; rw [aload, hk']; exact h
  case pix g o m i => have hk' : A' g = A g := hk; rw [aload, hk']; exact h
  case pel g i o => have hk' : A' g = A g := hk; rw [aload, hk']; exact h
theorem srcI_keep {k : IntKind} {s : AV} {A A' : Heap} {Q : List Int → Prop} (hk : keep1 s A A') (h : srcI k s A Q) : srcI k s A' Q := by
  cases s <;> try exact h
  case own g i n => have hk' : A' g = A g := hk; simp only [srcI] at h ⊢; rw [hk']; exact h
  case asl g o m i n => have hk' : A' g = A g := hk; simp only [srcI] at h ⊢; rw [hk']; exact h
theorem fl_keep {o : AOp} {ns : List Nat} (ho : o.rds = some ns) {env : AEnv} {A A' : Heap} {K : AV → Prop} (hk : ∀ n ∈ ns, keep1 (env n) A A') (h : fl P o env A K) : fl P o env A' K := by
  unfold AOp.rds at ho
  split at ho <;> try (cases ho; done)
  · rename_i n; injection ho with ho; subst ho
    exact aload_keep (hk n (by simp)) h
  · rename_i sz n i; injection ho with ho; subst ho
    have hk := hk n (by simp)
    simp only [fl, aop] at h ⊢
    generalize ev env i = iv at h ⊢
    cases iv <;> try exact h
    simp only [aint, ev] at h ⊢
    generalize env n = xv at h hk ⊢
    cases xv <;> try exact h
    rename_i g i0 n
    have hk' : A' g = A g := hk
    simp only [aidxP, aidx] at h ⊢
    rw [hk']; exact h
  · rename_i sz n lo hi; injection ho with ho; subst ho
    have hk := hk n (by simp)
    simp only [fl, aop, ev] at h ⊢
    obtain ⟨h1, h2⟩ := h
    generalize env n = xv at h1 h2 hk ⊢
    refine ⟨?_, ?_⟩
    · cases xv <;> try exact h1
      rename_i g i0 n
      have hk' : A' g = A g := hk
      simp only [szOK] at h1 ⊢
      rw [hk']; exact h1
    · cases xv <;> exact h2
  · rename_i n; injection ho with ho; subst ho
    exact ⟨h.1, srcI_keep (hk n (by simp)) h.2⟩
theorem rds_uses {o : AOp} {ns : List Nat} (ho : o.rds = some ns) : ∀ n ∈ ns, n ∈ o.uses := by
  unfold AOp.rds at ho
  split at ho <;> try (cases ho; done)
  all_goals
    injection ho with ho; subst ho
    intro m hm
    simp only [List.mem_singleton] at hm
    subst hm
    simp only [AOp.uses, AO.uses, List.flatMap_cons, List.flatMap_nil, List.mem_append, List.mem_singleton, true_or]
theorem rds_reads {o : AOp} {ns : List Nat} (ho : o.rds = some ns) : o.reads = true := by
  unfold AOp.rds at ho
  split at ho <;> first | rfl | (cases ho; done)
theorem gF_keep {o : AOper} {ns : List Nat} (ho : o.op.rds = some ns) {env : AEnv} {A A' : Heap} {K : AV → Prop} (hk : ∀ n ∈ ns, keep1 (env n) A A') (h : gF P o env A K) : gF P o env A' K := by
  unfold gF at h ⊢
  cases hg : o.g with
  | none => rw [hg] at h; exact fl_keep ho hk h
  | some sw =>
    obtain ⟨s, want⟩ := sw
    rw [hg] at h
    simp only at h ⊢
    cases hs : env s <;> rw [hs] at h <;> first | exact h.elim | skip
    · exact h
    exact ⟨fun e => fl_keep ho hk (h.1 e), h.2⟩

/-- An operation that does not float is carried out ahead of floating ones. -/
theorem pull_ch {K : AEnv → Heap → Prop} {Kp : AV → Heap → Prop} {d : DOp} {post : List DOp} (hd : d.fl = false) (hdf : d.o.op.floats = false) {A : Heap} : ∀ (pre : List DOp) (env : AEnv),
    (∀ e ∈ pre, e.fl = true ∧ e.o.op.floats = true ∧ indep d.o e.o = true ∧ (e.o.op.reads = false ∨ d.st = true ∧ (d.ks = none ∨ ∃ l ns, d.ks = some l ∧ e.o.op.rds = some ns ∧ ∀ n ∈ ns, n ∈ l))) →
    (d.ks ≠ none → pre.Pairwise (fun p e => p.o.op.reads = true → ∀ t, e.o.dst = some t → t ∉ p.o.uses) ∧ ∀ p ∈ pre, p.o.op.reads = true → ∀ t, p.o.dst = some t → t ∉ p.o.uses) →
    awD P (pre ++ d :: post) K Kp env A → ∃ envx : AEnv, (∀ t, (∀ e ∈ pre, e.o.dst ≠ some t) → envx t = env t) ∧ gC P d.o env A (fun v A' => (d.st = true → keepC d.ks envx A A') ∧ awD P (pre ++ post) K Kp (put env d.o.dst v) A') Kp
  | [], env, hp, hpw, h => by
    simp only [List.nil_append, awD, hd] at h ⊢
    exact ⟨env, fun _ _ => rfl, h.2⟩
  | e :: pre, env, hp, hpw, h => by
    obtain ⟨hef, heo, hind, hek⟩ := hp e (by simp)
    obtain ⟨i1, i2, i3⟩ := indep_spec hind
    simp only [List.cons_append, awD, hef] at h ⊢
    obtain ⟨ve, h1, _, g⟩ := (gF_uni heo env A).out _ _ h h
    have cd : ∀ t ∈ d.o.uses, put env e.o.dst ve t = env t := fun t ht => put_ne fun e' => i3 t e' ht
    obtain ⟨envx, hx, this⟩ := pull_ch hd hdf pre (put env e.o.dst ve) (fun x hx => hp x (by simp [hx])) (fun hn => ⟨(List.pairwise_cons.1 (hpw hn).1).2, fun p hp => (hpw hn).2 p (by simp [hp])⟩) h1
    rw [gC_congr cd] at this
    refine ⟨envx, fun t ht => ?_, gC_mono hdf ?_ this⟩
    · rw [hx t fun e' he' => ht e' (by simp [he'])]
      exact put_ne (ht e (by simp))
    rintro v A' ⟨h2, h3⟩
    refine ⟨h2, ?_⟩
    have ce : ∀ t ∈ e.o.uses, put env d.o.dst v t = env t := fun t ht => put_ne fun e' => i1 t e' ht
    rw [gF_congr ce]
    have main := g (fun u => awD P (pre ++ post) K Kp (put (put env d.o.dst v) e.o.dst u) A') (by rw [put_comm (fun t ht => i2 t ht)]; exact h3)
    rcases hek with hr | ⟨hst, hks⟩
    · exact gF_to heo (.inr hr) main
    · rcases h2 hst with hs | hs
      · exact gF_to heo (.inl hs) main
      · rcases hks with hn | ⟨l, ns, hl, hns, hsub⟩
        · rw [hn] at hs; exact hs.elim
        · rw [hl] at hs
          refine gF_keep hns (fun n hn => ?_) main
          have hu : n ∈ e.o.uses := by
            have := rds_uses hns n hn
            simp [AOper.uses, this]
          have hrd : e.o.op.reads = true := by
            exact rds_reads hns
          have hne : d.ks ≠ none := by rw [hl]; simp
          have e1 : envx n = env n := by
            rw [hx n fun e' he' hd' => (List.pairwise_cons.1 (hpw hne).1).1 e' he' hrd n hd' hu]
            exact put_ne fun hd' => (hpw hne).2 e (by simp) hrd n hd' hu
          rw [← e1]
          exact keepL_get hs n (hsub n hn)

/-! ### what only makes memory may be done ahead of its turn -/
theorem intsOf_congr {k : IntKind} {l : List AV} {ys : List Int} (h : intsOf k l = some ys) : ys.length = l.length := by
  induction l generalizing ys with
  | nil => simp [intsOf] at h; subst h; rfl
  | cons v r ih =>
    cases v <;> simp only [intsOf] at h <;> try (cases h)
    split at h
    · obtain ⟨y, hy, rfl⟩ := opt_map h
      simp [ih hy]
    · cases h
theorem mkL_congr {o : AOp} {env env' : AEnv} (h : ∀ t ∈ o.uses, env t = env' t) : mkL o env = mkL o env' := by
  cases o <;> try rfl
  case box => simp only [AOp.uses] at h; simp only [mkL]; rw [ev_congr h]
  case bslI => simp only [AOp.uses] at h; simp only [mkL]; rw [fillAll_congr _ h]
  case bsl => simp only [AOp.uses] at h; simp only [mkL]; rw [fillAll_congr _ h]
  case xx o xs => cases o <;> first | rfl | (cases xs <;> rfl)
theorem late_xx {o : XOp} {xs : List AO} (h : (AOp.xx o xs).late = true) : ∃ k, o = .mkM k ∧ xs = [] := by
  cases o <;> simp only [AOp.late, Bool.false_eq_true] at h
  cases xs with
  | nil => exact ⟨_, rfl, rfl⟩
  | cons => simp at h
theorem mkL_xx {o : XOp} {xs : List AO} {env : AEnv} {x : (Nat → AV) × Cont} (h : mkL (.xx o xs) env = some x) : ∃ k, o = .mkM k ∧ xs = [] ∧ x = (fun g => .map g, .mp k []) := by
  cases o <;> simp only [mkL] at h <;> try (cases h; done)
  cases xs with
  | nil => injection h with h; exact ⟨_, rfl, rfl, h.symm⟩
  | cons => simp at h
theorem mkL_late {o : AOp} {env : AEnv} {x : (Nat → AV) × Cont} (h : mkL o env = some x) : ∀ {A : Heap} {K Kp : AV → Heap → Prop}, aop P o env A K Kp ↔ ∀ g, A g = none → K (x.1 g) (A.set g x.2) := by
  intro A K Kp
  cases o <;> simp only [mkL] at h <;> try (cases h; done)
  case alloc t z => injection h with h; subst h; exact Iff.rfl
  case box t sh y =>
    split at h
    · rename_i hg
      obtain ⟨v, hv, rfl⟩ := opt_map h
      simp only [aop, abox, hv, hg, true_and]
    · cases h
  case bslI e k xs =>
    split at h
    · rename_i l hl
      obtain ⟨ys, hy, rfl⟩ := opt_map h
      simp only [aop, abslI, hl, hy]
    · cases h
  case bsl e sh sz xs =>
    obtain ⟨l, hl, rfl⟩ := opt_map h
    simp only [aop, absl, hl]
  case xx o xs =>
    obtain ⟨k, rfl, rfl, rfl⟩ := mkL_xx h
    exact Iff.rfl
theorem late_some {o : AOp} (ho : o.late = true) {env : AEnv} {A : Heap} {K Kp : AV → Heap → Prop} (h : aop P o env A K Kp) : (mkL o env).isSome = true := by
  cases o <;> simp only [AOp.late, Bool.false_eq_true] at ho <;> simp only [mkL]
  case alloc => rfl
  case box t sh y =>
    simp only [aop] at h
    rw [if_pos h.1]
    have h2 := h.2
    unfold abox at h2
    split at h2
    · exact h2.elim
    · rename_i hv; rw [hv]; rfl
  case bslI e k xs =>
    simp only [aop, abslI] at h
    split at h
    · rename_i l hl
      split at h
      · rename_i ys hy; rw [hl]; simp only [hy]; rfl
      · exact h.elim
    · exact h.elim
  case bsl e sh sz xs =>
    simp only [aop, absl] at h
    split at h
    · rename_i l hl; rw [hl]; rfl
    · exact h.elim
  case xx o xs =>
    obtain ⟨k, rfl, rfl⟩ := late_xx ho
    rfl
theorem late_nofl {o : AOp} (ho : o.late = true) : o.floats = false := by
  cases o with
  | xx o xs => obtain ⟨k, rfl, rfl⟩ := late_xx ho; rfl
  | _ => simp only [AOp.late, Bool.false_eq_true] at ho <;> rfl
theorem mkL_addr {o : AOp} (ho : o.late = true) (hne : o.empty = false) {env : AEnv} {x : (Nat → AV) × Cont} (h : mkL o env = some x) {E : Emb} {w : World} {g : Nat} (hc : RepC E w g x.2) : ∃ b off, (E.loc g).addr = some (b, off) := by
  have rowc : ∀ {xs : List AO} {n : Nat}, n = xs.length → xs ≠ [] → 0 < n := by
    intro xs n hn he; cases xs with
    | nil => exact absurd rfl he
    | cons => simp [hn]
  cases o <;> simp only [mkL] at h <;> try (cases h; done)
  case alloc t z => injection h with h; subst h; obtain ⟨b, cs, ha, _⟩ := hc; exact ⟨b, 0, ha⟩
  case box t sh y =>
    split at h
    · obtain ⟨v, hv, rfl⟩ := opt_map h
      obtain ⟨b, cs, ha, _⟩ := hc; exact ⟨b, 0, ha⟩
    · cases h
  case bslI e k xs =>
    split at h
    · rename_i l hl
      obtain ⟨ys, hy, rfl⟩ := opt_map h
      obtain ⟨_, hr, ⟨_, h0⟩ | ⟨b, off, C, ha, _⟩⟩ := hc
      · have := rowc ((intsOf_congr hy).trans (fillAll_length hl)) (by rintro rfl; cases hne)
        omega
      · exact ⟨b, off, ha⟩
    · cases h
  case bsl e sh sz xs =>
    obtain ⟨l, hl, rfl⟩ := opt_map h
    obtain ⟨_, hr, ⟨_, h0⟩ | ⟨b, off, C, ha, _⟩⟩ := hc
    · have := rowc (fillAll_length hl) (by rintro rfl; cases hne)
      omega
    · exact ⟨b, off, ha⟩
  case xx o xs =>
    obtain ⟨k, rfl, rfl, rfl⟩ := mkL_xx h
    obtain ⟨b, es, ck, ha, _⟩ := hc; exact ⟨b, 0, ha⟩
theorem lsOK_congr {ls : List Nat} {env env' : AEnv} : ∀ {l : List DOp}, (∀ p ∈ l, p.o.op.late = true → hasD ls p.o.dst = true → ∀ t ∈ p.o.op.uses, env t = env' t) → lsOK ls l env → lsOK ls l env'
  | [], _, h => h
  | p :: r, hc, h => by
    simp only [lsOK] at h ⊢
    refine ⟨fun h1 h2 => ?_, lsOK_congr (fun q hq => hc q (by simp [hq])) h.2⟩
    rw [← mkL_congr (hc p (by simp) h2 h1)]
    exact h.1 h1 h2
theorem lsOK_get {ls : List Nat} {env : AEnv} {p : DOp} (hc : hasD ls p.o.dst = true) (hl : p.o.op.late = true) : ∀ (l : List DOp), lsOK ls l env → p ∈ l → (mkL p.o.op env).isSome = true
  | [], _, hp => by simp at hp
  | q :: r, h, hp => by
    obtain ⟨h1, h2⟩ := h
    rcases List.mem_cons.1 hp with rfl | hp
    · exact h1 hc hl
    · exact lsOK_get hc hl r h2 hp

def ksHas (ks : Option (List Nat)) (d : Option Nat) : Bool := match ks with
  | none => false
  | some l => hasD l d
theorem keepL_upd {env : AEnv} {A A' : Heap} {t : Nat} {v : AV} : ∀ {l : List Nat}, l.contains t = false → keepL l env A A' → keepL l (upd env t v) A A'
  | [], _, _ => trivial
  | n :: l, ht, h => by
    simp only [List.contains_cons, Bool.or_eq_false_iff, beq_eq_false_iff_ne, ne_eq] at ht
    refine ⟨?_, keepL_upd ht.2 h.2⟩
    simp only [upd]
    rw [if_neg (fun e => ht.1 e.symm)]
    exact h.1
theorem keepC_upd {ks : Option (List Nat)} {env : AEnv} {A A' : Heap} {t : Nat} {v : AV} (ht : ksHas ks (some t) = false) (h : keepC ks env A A') : keepC ks (upd env t v) A A' := by
  rcases h with h | h
  · exact .inl h
  · refine .inr ?_
    cases ks with
    | none => exact h
    | some l => exact keepL_upd ht h
theorem upd_self {env : AEnv} {t : Nat} {v : AV} (h : env t = v) : upd env t v = env := by
  funext x; simp only [upd]; split
  · rename_i e; subst e; exact h.symm
  · rfl
/-- What a later operation is to write may stand there already. -/
theorem awD_put {K : AEnv → Heap → Prop} {Kp : AV → Heap → Prop} {q : DOp} {post : List DOp} {t : Nat} {v : AV} (hq : q.fl = false) (hqo : q.o.op.floats = false) (hg : q.o.g = none) (hd : q.o.dst = some t)
    (hqu : t ∉ q.o.op.uses) (hqk : ksHas q.ks (some t) = false) : ∀ (pre : List DOp) (env : AEnv) (A : Heap), (∀ e ∈ pre, e.fl = e.o.op.floats ∧ t ∉ e.o.uses ∧ e.o.dst ≠ some t ∧ ksHas e.ks (some t) = false) → (∀ e ∈ pre ++ q :: post, ∀ p ∈ pre ++ q :: post, p.o.op.late = true → hasD e.ls p.o.dst = true → t ∉ p.o.op.uses) →
    awD P (pre ++ q :: post) K Kp env A → awD P (pre ++ q :: post) K Kp (upd env t v) A
  | [], env, A, _, hl, h => by
    have hu : q.o.uses = q.o.op.uses := by simp [AOper.uses, hg]
    simp only [List.nil_append, awD, hq] at h ⊢
    refine ⟨lsOK_congr (fun p hp hpl hpd s hs => ?_) h.1, ?_⟩
    · simp only [upd]; rw [if_neg]; rintro rfl; exact hl q (by simp) p (by simp [hp]) hpl hpd hs
    · have c : ∀ s ∈ q.o.uses, upd env t v s = env s := fun s hs => by
        simp only [upd]; rw [if_neg]; rintro rfl; rw [hu] at hs; exact hqu hs
      rw [gC_congr c]
      refine gC_mono hqo ?_ h.2
      rintro u A' ⟨h1, h2⟩
      refine ⟨fun hst => keepC_upd hqk (h1 hst), ?_⟩
      rw [hd] at h2 ⊢
      have : put (upd env t v) (some t) u = put env (some t) u := by
        funext x; simp only [put, upd]; split <;> rfl
      rw [this]; exact h2
  | e :: pre, env, A, hp, hl, h => by
    obtain ⟨hef, heu, hed, hek⟩ := hp e (by simp)
    have c : ∀ s ∈ e.o.uses, upd env t v s = env s := fun s hs => by
      simp only [upd]; rw [if_neg]; rintro rfl; exact heu hs
    have sw : ∀ u, put (upd env t v) e.o.dst u = upd (put env e.o.dst u) t v := fun u => by
      have := put_comm (env := env) (d := some t) (e := e.o.dst) (v := v) (u := u) (fun s hs => by injection hs with hs; subst hs; exact hed)
      simpa only [put] using this
    have ih := fun u A' => awD_put (K := K) (Kp := Kp) (v := v) hq hqo hg hd hqu hqk pre (put env e.o.dst u) A' (fun x hx => hp x (by simp [hx])) (fun x hx y hy => hl x (by simp at hx ⊢; exact .inr hx) y (by simp at hy ⊢; exact .inr hy))
    simp only [List.cons_append, awD] at h ⊢
    cases hfl : e.fl with
    | true =>
      rw [hfl] at h
      simp only at h ⊢
      rw [gF_congr c]
      obtain ⟨ve, h1, _, g⟩ := (gF_uni (by rw [← hef]; exact hfl) env A).out _ _ h h
      refine g _ ?_
      rw [sw]
      exact ih ve A h1
    | false =>
      rw [hfl] at h
      simp only at h ⊢
      refine ⟨lsOK_congr (fun p hpm hpl hpd s hs => ?_) h.1, ?_⟩
      · simp only [upd]; rw [if_neg]; rintro rfl; exact hl e (by simp) p (by simp at hpm ⊢; exact .inr hpm) hpl hpd hs
      · rw [gC_congr c]
        refine gC_mono (by rw [← hef]; exact hfl) ?_ h.2
        rintro u A' ⟨h1, h2⟩
        refine ⟨fun hst => keepC_upd hek (h1 hst), ?_⟩
        rw [sw]
        exact ih u A' h2
/-- That a maker can run ahead of its turn. -/
theorem awD_late {K : AEnv → Heap → Prop} {Kp : AV → Heap → Prop} {q : DOp} {post : List DOp} {t : Nat} (hq : q.fl = false) (hql : q.o.op.late = true) (hg : q.o.g = none) (hd : q.o.dst = some t) :
    ∀ (pre : List DOp) (env : AEnv) (A : Heap), (∀ e ∈ pre, (e.fl = true ∧ e.o.op.floats = true ∧ indep q.o e.o = true) ∨ (e.fl = false ∧ hasD e.ls q.o.dst = true)) →
    awD P (pre ++ q :: post) K Kp env A → (mkL q.o.op env).isSome = true
  | [], env, A, _, h => by
    simp only [List.nil_append, awD, hq, gC, hg] at h
    exact late_some hql h.2
  | e :: pre, env, A, hp, h => by
    rcases hp e (by simp) with ⟨hef, heo, hind⟩ | ⟨hef, hls⟩
    · simp only [List.cons_append, awD, hef] at h
      obtain ⟨ve, h1, _, _⟩ := (gF_uni heo env A).out _ _ h h
      have := awD_late hq hql hg hd pre _ A (fun x hx => hp x (by simp [hx])) h1
      rw [mkL_congr (env' := env)] at this
      · exact this
      · intro s hs
        refine put_ne fun e' => (indep_spec hind).2.2 s e' ?_
        simp [AOper.uses, hs]
    · simp only [List.cons_append, awD, hef] at h
      exact lsOK_get hls hql _ h.1 (by simp)
/-- Its turn. -/
theorem pull_late {K : AEnv → Heap → Prop} {Kp : AV → Heap → Prop} {q : DOp} {post : List DOp} (hq : q.fl = false) (hg : q.o.g = none) {x : (Nat → AV) × Cont} {A : Heap} {g : Nat} (hA : A g = none) :
    ∀ (pre : List DOp) (env : AEnv), (∀ e ∈ pre, e.fl = true ∧ e.o.op.floats = true ∧ indep q.o e.o = true) → mkL q.o.op env = some x →
    awD P (pre ++ q :: post) K Kp env A → awD P (pre ++ post) K Kp (put env q.o.dst (x.1 g)) (A.set g x.2)
  | [], env, _, hm, h => by
    simp only [List.nil_append, awD, hq, gC, hg] at h ⊢
    exact ((mkL_late hm).1 h.2 g hA).2
  | e :: pre, env, hp, hm, h => by
    obtain ⟨hef, heo, hind⟩ := hp e (by simp)
    obtain ⟨i1, i2, i3⟩ := indep_spec hind
    simp only [List.cons_append, awD, hef] at h ⊢
    obtain ⟨ve, h1, _, G⟩ := (gF_uni heo env A).out _ _ h h
    have := pull_late hq hg hA pre (put env e.o.dst ve) (fun y hy => hp y (by simp [hy])) (by
      rw [← hm]
      refine mkL_congr fun s hs => put_ne fun e' => i3 s e' ?_
      simp [AOper.uses, hs]) h1
    have ce : ∀ t ∈ e.o.uses, put env q.o.dst (x.1 g) t = env t := fun t ht => put_ne fun e' => i1 t e' ht
    rw [gF_congr ce]
    refine gF_to heo (.inl fun g' c hg' => by rw [Heap.set_ne _ _ (fun e => by subst e; rw [hA] at hg'; cases hg')]; exact hg') (G _ ?_)
    rw [put_comm (fun t ht => i2 t ht)]
    exact this
end
end AVL
