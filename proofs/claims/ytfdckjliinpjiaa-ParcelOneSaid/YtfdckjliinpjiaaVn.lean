/- The abstract program: operations, code, functions; that the machine does what it says. -/
import Derived.Test.YtfdckjliinpjiaaVx
import Derived.Calls
namespace AVL
open Go
set_option linter.unusedSimpArgs false
set_option linter.unusedVariables false

inductive AOp where
  | mv (x : AO)
  | pick (c a b : AO)
  | alloc (t : TypeId) (z : List AV)
  | box (t : TypeId) (sh : Sh) (x : AO)
  | build (sh : Sh) (z : List AV) (ps : List (Nat × Nat × AO))
  | bslI (e : TypeId) (k : IntKind) (xs : List AO)
  | bsl (e : TypeId) (sh : Sh) (sz : Nat) (xs : List AO)
  | load (sh : Sh) (sz : Nat) (p : AO)
  | store (sh : Sh) (sz : Nat) (p x : AO)
  | bin (op : BinOp) (x y : AO)
  | eq (et : ET) (neg : Bool) (x y : AO)
  | un (op : UnOp) (x : AO)
  | conv (k : IntKind) (x : AO)
  | fadr (off sz : Nat) (sh : Sh) (x : AO)
  | field (off sz : Nat) (sh : Sh) (x : AO)
  | idx (sz : Nat) (x i : AO)
  | idxA (m sz : Nat) (ints : Bool) (x i : AO)
  | slc (sz : Nat) (x : AO) (lo hi : Option AO)
  | slcA (m : Nat) (x : AO) (lo hi : Option AO)
  | s2a (m : Nat) (x : AO)
  | mkI (e : TypeId) (k : IntKind) (bytes : Nat) (l c : AO)
  | mk (e : TypeId) (sz bytes : Nat) (z : AV) (l c : AO)
  | ext (i : Nat) (x : AO)
  | len (str : Bool) (x : AO)
  | appI (e : TypeId) (k : IntKind) (bytes : Nat) (d s : AO)
  | app (e : TypeId) (sz bytes : Nat) (d s : AO)
  | call (f : FuncId) (args : List (Sh × AO))
  | callV (x : AO) (args : List (Sh × AO))
  | pnc (x : AO)
  | xx (o : XOp) (xs : List AO)

inductive AOut where
  | ret (v : AV)
  | pan (v : AV)
def OutR (E : Emb) : AOut → Ending → Prop
  | .ret v, e => ∃ c, e = .returned c ∧ TV E v c
  | .pan v, e => ∃ c, e = .panicked [{ v := c, recovered := false }] ∧ TV E v c

/-- What a call does, told by abstract values. -/
def SimX (P : Program) (f : FuncId) (args : List AV) (A : Heap) (K : AOut → Heap → Prop) : Prop :=
  ∀ E w (cargs : Array Value), Rep E A w → TVl E args cargs.toList → Calls P f cargs w fun e w' => ∃ o A' E', K o A' ∧ Rep E' A' w' ∧ E.Le E' ∧ Same w w' ∧ OutR E' o e

theorem SimX.mono {P : Program} {f : FuncId} {args : List AV} {A : Heap} {K K' : AOut → Heap → Prop} (h : SimX P f args A K) (hk : ∀ o A', K o A' → K' o A') : SimX P f args A K' :=
  fun E w cargs hR ha => (h E w cargs hR ha).mono fun _ _ ⟨o, A', E', k, r⟩ => ⟨o, A', E', hk _ _ k, r⟩

def nrm (sh : Sh) (v : AV) : Option AV :=
  match sh with
  | .sc => if v.isAgg then none else some v
  | sh => if v.isAgg then shp sh (comps v) else none
def nrms (env : AEnv) : List (Sh × AO) → Option (List AV)
  | [] => some []
  | (sh, x) :: r => match nrm sh (ev env x), nrms env r with
    | some v, some l => some (v :: l)
    | _, _ => none
theorem nrm_ok {E : Emb} {sh : Sh} {v v' : AV} {c : Value} (h : TV E v c) (hn : nrm sh v = some v') : TV E v' c := by
  rcases h with ⟨hv, xs, hx, rfl⟩ | ⟨hv, hx⟩
  · unfold nrm at hn
    split at hn
    · simp [hv] at hn
    · rename_i hne
      simp only [hv, if_true] at hn
      refine shp_ok (VR_comps hx) hn ?_
      cases sh with
      | sc => exact absurd rfl hne
      | ag => rfl
      | ia k n => rfl
  · unfold nrm at hn
    split at hn
    · simp only [hv, Bool.false_eq_true, if_false] at hn
      injection hn with hn; subst hn
      exact .inr ⟨hv, hx⟩
    · simp [hv] at hn

def evo (env : AEnv) : Option AO → Option AV
  | none => none
  | some x => some (ev env x)

def aint (i : AV) (Q : Int → Prop) : Prop :=
  match i with
  | .int _ n => Q n
  | _ => False
def callable (P : Program) (f : FuncId) : Bool := match P.funcs[f]? with
  | some fn => fn.body.isSome && fn.name != "runtime.NumGoroutine"
  | none => false
def outK (K Kp : AV → Heap → Prop) (o : AOut) (A : Heap) : Prop := match o with
  | .ret v => K v A
  | .pan v => Kp v A
/-- The element's place; of nil: thrown. -/
def aidxP (P : Program) (sz : Nat) (x : AV) (n : Int) (A : Heap) (K Kp : AV → Heap → Prop) : Prop := match x with
  | .nilS => ∀ s : Bool, Kp (.iface P.rt.boundsError (.agg [.int .i64 (IntKind.i64.wrap n), .int .i64 0, .bool s, .int .u8 0])) A
  | x => aidx sz x n A K
theorem aidxP_eq {P : Program} {sz : Nat} {x : AV} {n : Int} {A : Heap} {K Kp : AV → Heap → Prop} (hx : x ≠ .nilS) : aidxP P sz x n A K Kp = aidx sz x n A K := by
  cases x <;> first | rfl | exact absurd rfl hx
theorem aidxP_of {P : Program} {sz : Nat} {x : AV} {n : Int} {A : Heap} {K Kp : AV → Heap → Prop} (hx : x ≠ .nilS) (h : aidxP P sz x n A K Kp) : aidx sz x n A K := by
  cases x <;> first | exact h | exact absurd rfl hx
/-- An operation on abstract values: what must hold so that it runs and leads on to K (or, thrown, to Kp). -/
def aop (P : Program) (o : AOp) (env : AEnv) (A : Heap) (K : AV → Heap → Prop) (Kp : AV → Heap → Prop) : Prop :=
  match o with
  | .mv x => K (ev env x) A
  | .pick c a b => apick (ev env c) (ev env a) (ev env b) fun v => K v A
  | .alloc t z => ∀ g, A g = none → K (.ptr g 0) (A.set g (.var t z))
  | .box t sh x => good (ev env x) = true ∧ abox t sh (ev env x) A K
  | .build sh z ps => abuild sh z ps env A K
  | .bslI e k xs => abslI e k xs env A K
  | .bsl e sh sz xs => absl e sh sz xs env A K
  | .load sh sz p => aload sh sz (ev env p) A K
  | .store sh sz p x => good (ev env x) = true ∧ astore sh sz (ev env p) (ev env x) A K
  | .bin op x y => abin op (ev env x) (ev env y) fun v => K v A
  | .eq et neg x y => aeq et neg (ev env x) (ev env y) fun v => K v A
  | .un op x => aun op (ev env x) fun v => K v A
  | .conv k x => aconv k (ev env x) fun v => K v A
  | .fadr off sz sh x => afadr off sz sh (ev env x) A K
  | .field off sz sh x => afield off sz sh (ev env x) A K
  | .idx sz x i => aint (ev env i) fun n => aidxP P sz (ev env x) n A K Kp
  | .idxA m sz ints x i => aint (ev env i) fun n => aidxA m sz ints (ev env x) n A K
  | .slc sz x lo hi => szOK sz (ev env x) A ∧ aslc (ev env x) (evo env lo) (evo env hi) A K
  | .slcA m x lo hi => aslcA m (ev env x) (evo env lo) (evo env hi) A K
  | .s2a m x => as2a m (ev env x) A K
  | .mkI e k bytes l c => amkI e k bytes (ev env l) (ev env c) A K
  | .mk e sz bytes z l c => amk e sz bytes z (ev env l) (ev env c) A K
  | .ext i x => aext i (ev env x) fun v => K v A
  | .len str x => alen str (ev env x) fun v => K v A
  | .appI e k bytes d s => aappI e k bytes (ev env d) (ev env s) A K
  | .app e sz bytes d s => aapp e sz bytes (ev env d) (ev env s) A K
  | .call f args => match nrms env args with
    | some vs => SimX P f vs A fun o A' => match o with
      | .ret v => K v A'
      | .pan v => Kp v A'
    | none => False
  | .callV x args => match ev env x, nrms env args with
    | .func (.func f) first cap, some vs => callable P f = true ∧ SimX P f (first ++ vs ++ cap) A (outK K Kp)
    | _, _ => False
  | .pnc x => match ev env x with
    | .iface t v => Kp (.iface t v) A
    | _ => False
  | .xx o xs => xop o (xs.map (ev env)) A K

/-! ### from the machine's operations to these -/
def trOpt (o : Option Operand) : Option (Option AO) :=
  match o with
  | none => some none
  | some x => (trO x).map some
def trArgs (P : Program) : List Operand → List TypeId → Option (List (Sh × AO))
  | [], [] => some []
  | x :: r, t :: s => match trO x, shOf P t, trArgs P r s with
    | some a, some (sh, _), some l => some ((sh, a) :: l)
    | _, _, _ => none
  | _, _ => none
/-- The tree for equality at a type. -/
def etOf (P : Program) : Nat → TypeId → Option ET
  | 0, _ => none
  | d + 1, t => match P.underlying t with
    | some (.int _) => some .scI
    | some .bool => some .scB
    | some .string => some .scS
    | some (.array n e) => match P.underlying e with
      | some (.int _) => some (.ia n)
      | _ => none
    | some (.struct fs) => (fs.toList.mapM fun (f : Field) => match shOf P f.type, etOf P d f.type with
      | some (sh, sz), some et => some (f.offset, sz, sh, et)
      | _, _ => none).map .st
    | _ => none
def trBuiltin (P : Program) (b : Builtin) (args : List Operand) (ts : List TypeId) : Option AOp :=
  match b, args, ts with
  | .len, [x], [t] => match lenT P t, trO x with
    | some s, some a => some (.len s a)
    | _, _ => none
  | .append, [d, s], [t, u] => match P.underlying t, trO d, trO s with
    | some (.slice e), some ad, some as => if srcT P u = true then match elOf P e with
        | some (sz, bytes, z) => match intK P e with
          | some k => if sz = 1 then some (.appI e k bytes ad as) else none
          | none => some (.app e sz bytes ad as)
        | none => none
      else none
    | _, _, _ => none
  | _, _, _ => none
def trOp0 (P : Program) (o : Op) : Option AOp :=
  match o with
  | .move x | .assign x => (trO x).map .mv
  | .pick c a b => match trO c, trO a, trO b with
    | some c, some a, some b => some (.pick c a b)
    | _, _, _ => none
  | .alloc t => (zeroOf P t).map (.alloc t)
  | .box t x => match shOf P t, trO x with
    | some (sh, _), some a => some (.box t sh a)
    | _, _ => none
  | .build t ps => match shOf P t, zeroOf P t, placesOf P t with
    | some (sh, _), some z, some pl => if sh = .sc then none else
        if sizedT P t = true then
          (trParts pl ps.toList).map (.build sh z) else none
    | _, _, _ => none
  | .buildSlice t len ps => match P.underlying t with
    | some (.slice e) => match elOf P e, shOf P e, trList 0 ps.toList with
      | some (sz, _, _), some (sh, _), some xs => if ps.size = len ∧ len * sz ≤ 2 ^ 24 then match intK P e with
          | some k => if sz = 1 then some (.bslI e k xs) else none
          | none => some (.bsl e sh sz xs)
        else none
      | _, _, _ => none
    | _ => none
  | .load t p => match shOf P t, trO p with
    | some (sh, sz), some a => some (.load sh sz a)
    | _, _ => none
  | .store t p x => match shOf P t, trO p, trO x with
    | some (sh, sz), some a, some b => some (.store sh sz a b)
    | _, _, _ => none
  | .binOp op t x y _ => match trO x, trO y with
    | some a, some b => match op with
      | .eql => match etOf P 8 t with
        | some et => if et.rk ≤ 9999 ∧ etOK P et t = true ∧ P.eqGuardType P.depth t = false then some (.eq et false a b) else none
        | none => none
      | .neq => match etOf P 8 t with
        | some et => if et.rk ≤ 9999 ∧ etOK P et t = true ∧ P.eqGuardType P.depth t = false then some (.eq et true a b) else none
        | none => none
      | op => some (.bin op a b)
    | _, _ => none
  | .unOp op _ x => (trO x).map (.un op)
  | .convert s t x => match (P.underlying s).isSome, P.underlying t, trO x with
    | true, some (.int k), some a => some (.conv k a)
    | _, _, _ => none
  | .fieldAddr t x i => match fieldOf P t i, trO x with
    | some (off, sh, sz), some a => some (.fadr off sz sh a)
    | _, _ => none
  | .field t x i => match fieldOf P t i, trO x with
    | some (off, sh, sz), some a => some (.field off sz sh a)
    | _, _ => none
  | .indexAddr t x i => match trO x, trO i with
    | some a, some b => match P.underlying t with
      | some (.slice e) => match P.info? e with
        | some j => some (.idx j.size a b)
        | none => none
      | _ => match idxAT P t with
        | some (m, sz, ints) => some (.idxA m sz ints a b)
        | none => none
    | _, _ => none
  | .slice t x lo hi none => match trO x, trOpt lo, trOpt hi with
    | some a, some l, some h => match P.underlying t with
      | some (.slice e) => match P.info? e with
        | some j => some (.slc j.size a l h)
        | none => none
      | _ => match intArr P t with
        | some m => some (.slcA m a l h)
        | none => none
    | _, _, _ => none
  | .sliceToArrayPointer t x => match intArr P t, trO x with
    | some m, some a => some (.s2a m a)
    | _, _ => none
  | .makeSlice t l c => match P.underlying t, trO l, trO c with
    | some (.slice e), some a, some b => match elOf P e with
      | some (sz, bytes, z) => match intK P e with
        | some k => match z with
          | .int k' n => if k' = k ∧ n = 0 ∧ sz = 1 then some (.mkI e k bytes a b) else none
          | _ => none
        | none => some (.mk e sz bytes z a b)
      | none => none
    | _, _, _ => none
  | .extract x i => (trO x).map (.ext i)
  | .call c => match c.callee with
    | .value (.func f) => if callable P f = true then
        (trArgs P c.args.toList c.argTypes.toList).map (.call f) else none
    | .value (.tmp t) => (trArgs P c.args.toList c.argTypes.toList).map (.callV (.t t))
    | .builtin b => trBuiltin P b c.args.toList c.argTypes.toList
    | _ => none
  | .panic x => (trO x).map .pnc
  | _ => none
def trOs : List Operand → Option (List AO)
  | [] => some []
  | x :: r => match trO x, trOs r with
    | some a, some l => some (a :: l)
    | _, _ => none
def trOp (P : Program) (o : Op) : Option AOp :=
  match trOp0 P o with
  | some a => some a
  | none => match trX P o with
    | some (xo, ys) => (trOs ys).map (.xx xo)
    | none => none

/-- The operations that change no memory, and make none. -/
def AOp.floats : AOp → Bool
  | .mv _ | .pick .. | .build .. | .load .. | .bin .. | .eq .. | .un .. | .conv .. | .fadr .. | .field .. | .idx .. | .idxA .. | .slc .. | .slcA .. | .s2a .. | .ext .. | .len .. => true
  | .xx o _ => o.floats
  | _ => false
def AOp.acts : AOp → Bool
  | .call .. | .callV .. | .pnc _ => true
  | _ => false
/-- Those of them that look into memory. -/
def AOp.reads : AOp → Bool
  | .load .. | .idx .. | .slc .. => true
  | .xx o _ => o.reads
  | _ => false

section
variable {P : Program} {w : World} {E : Emb} {A : Heap} {K Kp : AV → Heap → Prop} {a : Act} {env : AEnv}

theorem Res.upon {o : Oper} {next : Act → World → Prop} {Q : Exit → Act → World → Prop} {r : Result Next} (h : Res E w K r)
    (hn : ∀ v A' E' w' c, K v A' → Rep E' A' w' → E.Le E' → Same w w' → TV E' v c → next (a.put o.dst c) w') : o.upon P a next Q r := by
  obtain ⟨v, A', E', w', hk, hR, hE, hS, ⟨c, rfl, hc⟩ | ⟨rfl, rfl⟩⟩ := h
  · exact hn v A' E' w' c hk hR hE hS hc
  · exact hn .undef A' E' w' undef hk hR hE hS (TV_undef _ _)

theorem TVo {x : Option Operand} {ax : Option AO} (he : EnvR E env a) (h : trOpt x = some ax) :
    (evo env ax = none ∧ x.map a.eval = none) ∨ ∃ v c, evo env ax = some v ∧ x.map a.eval = some c ∧ TV E v c := by
  cases x with
  | none => simp only [trOpt] at h; injection h with h; subst h; exact .inl ⟨rfl, rfl⟩
  | some x =>
    simp only [trOpt] at h
    cases hx : trO x with
    | none => rw [hx] at h; simp at h
    | some y => rw [hx] at h; simp at h; subst h; exact .inr ⟨_, _, rfl, rfl, ev_ok he hx⟩

theorem opt_map {α β : Type} {x : Option α} {f : α → β} {y : β} (h : x.map f = some y) : ∃ z, x = some z ∧ y = f z := by
  cases x with
  | none => simp at h
  | some z => simp at h; exact ⟨z, rfl, h.symm⟩

theorem intOp {i : AV} {c : Value} (hi : TV E i c) {Q : Int → Prop} (h : aint i Q) : ∃ k n, c = .int k n ∧ Q n := by
  unfold aint at h
  split at h
  · simp only [TV_int] at hi
    exact ⟨_, _, hi, h⟩
  · exact h.elim

/-- The operations that touch no memory. -/
theorem fl_ok0 {o : Oper} {ao : AOp} (ho : trOp0 P o.op = some ao) (hf : ao.floats = true) (hni : ∀ sz x i, ao = .idx sz x i → ev env x ≠ .nilS) (hR : Rep E A w) (he : EnvR E env a) (h : aop P ao env A K Kp) :
    ResV E A w K ((execOp a.eval o).run P w) := by
  cases hop : o.op <;> rw [hop] at ho <;> simp only [trOp0] at ho <;> try (cases ho; done)
  case move x =>
    obtain ⟨ax, hx, rfl⟩ := opt_map ho
    simp only [execOp, hop, Sem.run_pure]
    exact Res.val hR h (ev_ok he hx)
  case assign x =>
    obtain ⟨ax, hx, rfl⟩ := opt_map ho
    simp only [execOp, hop, Sem.run_pure]
    exact Res.val hR h (ev_ok he hx)
  case pick c x y =>
    split at ho
    · rename_i h1 h2 h3
      injection ho with ho; subst ho
      simp only [execOp, hop]
      exact pick_ok hR (ev_ok he h1) (ev_ok he h2) (ev_ok he h3) h
    · cases ho
  case alloc t => obtain ⟨z, hz, rfl⟩ := opt_map ho; cases hf
  case box t x => (repeat' (first | (cases ho; done) | (injection ho with ho; subst ho; cases hf; done) | split at ho))
  case build t ps =>
    split at ho
    · rename_i sh sz z pl h1 h2 h3
      split at ho
      · cases ho
      · rename_i hsc
        split at ho
        · rename_i hall
          obtain ⟨qs, hq, rfl⟩ := opt_map ho
          simp only [execOp, hop]
          exact build_ok hR he h1 hsc h2 h3 hall hq h
        · cases ho
    · cases ho
  case buildSlice t len ps => (repeat' (first | (cases ho; done) | (injection ho with ho; subst ho; cases hf; done) | split at ho))
  case load t p =>
    split at ho
    · rename_i h1 h2
      injection ho with ho; subst ho
      simp only [execOp, hop]
      exact load_ok hR h1 (ev_ok he h2) h
    · cases ho
  case store t p x => (repeat' (first | (cases ho; done) | (injection ho with ho; subst ho; cases hf; done) | split at ho))
  case binOp op t x y yt =>
    split at ho
    · rename_i ax ay h1 h2
      simp only [execOp, hop]
      split at ho
      · split at ho
        · rename_i et het
          split at ho
          · rename_i hh
            injection ho with ho; subst ho
            exact eq_ok (neg := false) hR hh.1 hh.2.1 hh.2.2 (ev_ok he h1) (ev_ok he h2) h
          · cases ho
        · cases ho
      · split at ho
        · rename_i et het
          split at ho
          · rename_i hh
            injection ho with ho; subst ho
            exact eq_ok (neg := true) hR hh.1 hh.2.1 hh.2.2 (ev_ok he h1) (ev_ok he h2) h
          · cases ho
        · cases ho
      · injection ho with ho; subst ho
        exact bin_ok hR (ev_ok he h1) (ev_ok he h2) h
    · cases ho
  case unOp op t x =>
    obtain ⟨ax, hx, rfl⟩ := opt_map ho
    simp only [execOp, hop]
    exact un_ok hR (ev_ok he hx) h
  case convert s t x =>
    split at ho
    · rename_i h1 h2 h3
      injection ho with ho; subst ho
      simp only [execOp, hop]
      exact conv_ok hR h1 h2 (ev_ok he h3) h
    · cases ho
  case fieldAddr t x i =>
    split at ho
    · rename_i h1 h2
      injection ho with ho; subst ho
      simp only [execOp, hop]
      exact fadr_ok hR h1 (ev_ok he h2) h
    · cases ho
  case field t x i =>
    split at ho
    · rename_i h1 h2
      injection ho with ho; subst ho
      simp only [execOp, hop]
      exact field_ok hR h1 (ev_ok he h2) h
    · cases ho
  case indexAddr t x i =>
    split at ho
    · rename_i ax ai h1 h2
      simp only [execOp, hop]
      split at ho
      · rename_i e hu
        split at ho
        · rename_i j hj
          injection ho with ho; subst ho
          obtain ⟨k, n, hc, h'⟩ := intOp (Q := fun n => aidxP P j.size (ev env ax) n A K Kp) (ev_ok he h2) h
          rw [hc]
          exact idx_ok hR hu (by simp [hj]) (ev_ok he h1) (aidxP_of (hni _ _ _ rfl) h')
        · cases ho
      · split at ho
        · rename_i m sz ints hT
          injection ho with ho; subst ho
          obtain ⟨k, n, hc, h'⟩ := intOp (Q := fun n => aidxA m sz ints (ev env ax) n A K) (ev_ok he h2) h
          rw [hc]
          exact idxA_ok hR hT (ev_ok he h1) h'
        · cases ho
    · cases ho
  case slice t x lo hi mx =>
    cases mx with
    | some m => simp at ho
    | none =>
      simp only at ho
      split at ho
      · rename_i ax al ah h1 h2 h3
        simp only [execOp, hop]
        split at ho
        · rename_i e hu
          split at ho
          · rename_i j hj
            injection ho with ho; subst ho
            exact slc_ok hR hu (by simp [hj]) (ev_ok he h1) (TVo he h2) (TVo he h3) h.1 h.2
          · cases ho
        · split at ho
          · rename_i m hm
            injection ho with ho; subst ho
            exact slcA_ok hR hm (ev_ok he h1) (TVo he h2) (TVo he h3) h
          · cases ho
      · cases ho
  case sliceToArrayPointer t x =>
    split at ho
    · rename_i m ax h1 h2
      injection ho with ho; subst ho
      simp only [execOp, hop]
      exact s2a_ok hR h1 (ev_ok he h2) h
    · cases ho
  case makeSlice t l c => (repeat' (first | (cases ho; done) | (injection ho with ho; subst ho; cases hf; done) | split at ho))
  case extract x i =>
    obtain ⟨ax, hx, rfl⟩ := opt_map ho
    simp only [execOp, hop]
    exact ext_ok hR (ev_ok he hx) h
  case panic x => obtain ⟨_, _, rfl⟩ := opt_map ho; cases hf
  case call c =>
    obtain ⟨callee, args, argTypes⟩ := c
    simp only at ho
    split at ho
    · split at ho
      · obtain ⟨l, hl, rfl⟩ := opt_map ho
        cases hf
      · cases ho
    · obtain ⟨l, hl, rfl⟩ := opt_map ho
      cases hf
    · rename_i b
      unfold trBuiltin at ho
      split at ho
      · rename_i x t ha ht
        split at ho
        · rename_i s ax h1 h2
          injection ho with ho; subst ho
          have ea : args = #[x] := by rw [← Array.toArray_toList (xs := args), ha]
          have et : argTypes = #[t] := by rw [← Array.toArray_toList (xs := argTypes), ht]
          subst ea; subst et
          have := len_ok (ty := o.type) hR h1 (ev_ok he h2) h
          simp only [execOp, hop, resolve, invoke, builtin, Sem.run_bind, Sem.run_pure, Result.andThen_ok] at this ⊢
          simpa using this
        · cases ho
      · rename_i d s t u ha ht
        split at ho
        · rename_i e ad as hu h1 h2
          split at ho
          · rename_i hsrc
            have ea : args = #[d, s] := by rw [← Array.toArray_toList (xs := args), ha]
            have et : argTypes = #[t, u] := by rw [← Array.toArray_toList (xs := argTypes), ht]
            subst ea; subst et
            split at ho
            · rename_i sz bytes z hel
              obtain ⟨i, zv, hi, rfl, rfl, hzz, hzs, hp, hby, hv⟩ := elOf_ok hel
              split at ho
              · rename_i k hk
                split at ho
                · rename_i hsz
                  injection ho with ho; subst ho; cases hf
                · cases ho
              · injection ho with ho; subst ho; cases hf
            · cases ho
          · cases ho
        · cases ho
      · cases ho
    · cases ho

/-- The operations that call no function of the program. -/
theorem op_ok0 {o : Oper} {ao : AOp} (ho : trOp0 P o.op = some ao) (hnc : ao.acts = false) (hni : ∀ sz x i, ao = .idx sz x i → ev env x ≠ .nilS) (hR : Rep E A w) (he : EnvR E env a) (h : aop P ao env A K Kp) :
    Res E w K ((execOp a.eval o).run P w) := by
  by_cases hfl : ao.floats = true
  · exact (fl_ok0 ho hfl hni hR he h).res hR
  cases hop : o.op <;> rw [hop] at ho <;> simp only [trOp0] at ho <;> try (cases ho; done)
  case slice t x lo hi mx =>
    cases mx <;> simp only [trOp0] at ho <;> (repeat' (first | (cases ho; done) | (injection ho with ho; subst ho; exact absurd rfl hfl) | split at ho))
  case alloc t =>
    obtain ⟨z, hz, rfl⟩ := opt_map ho
    simp only [execOp, hop]
    exact alloc_ok hR hz h
  case box t x =>
    split at ho
    · rename_i h1 h2
      injection ho with ho; subst ho
      simp only [execOp, hop]
      exact box_ok hR (ev_ok he h2) h.1 h.2
    · cases ho
  case buildSlice t len ps =>
    split at ho
    · rename_i e hu
      split at ho
      · rename_i sz bytes z sh sz' xs h1 h2 h3
        split at ho
        · rename_i hh
          split at ho
          · rename_i k hk
            split at ho
            · rename_i hsz; subst hsz
              injection ho with ho; subst ho
              simp only [execOp, hop]
              refine Res.irow (e := e) (k := k) (bsl_ok (sh := .sc) hR he hu h1 h3 hh.1 hh.2 ?_)
              have h' : abslI e k xs env A K := h
              unfold abslI at h'
              unfold absl
              split at h'
              · rename_i l hl
                split at h'
                · rename_i ys hys
                  intro g hg
                  refine ⟨A, g, ys, ?_, h' g hg⟩
                  congr 2
                  clear h' hl h
                  induction l generalizing ys with
                  | nil => simp [intsOf] at hys; subst hys; rfl
                  | cons v r ih =>
                    cases v <;> simp only [intsOf] at hys <;> try (cases hys)
                    split at hys
                    · rename_i e'; subst e'
                      obtain ⟨y, hy, rfl⟩ := opt_map hys
                      simp [ih y hy]
                    · cases hys
                · exact h'.elim
              · exact h'.elim
            · cases ho
          · injection ho with ho; subst ho
            simp only [execOp, hop]
            exact bsl_ok hR he hu h1 h3 hh.1 hh.2 h
        · cases ho
      · cases ho
    · cases ho
  case store t p x =>
    split at ho
    · rename_i h1 h2 h3
      injection ho with ho; subst ho
      simp only [execOp, hop]
      exact store_ok hR h1 (ev_ok he h2) (ev_ok he h3) h.1 h.2
    · cases ho
  case makeSlice t l c =>
    split at ho
    · rename_i e al ac hu h1 h2
      simp only [execOp, hop]
      split at ho
      · rename_i sz bytes z hel
        split at ho
        · rename_i k hk
          split at ho
          · split at ho
            · rename_i hh
              obtain ⟨rfl, rfl, rfl⟩ := hh
              injection ho with ho; subst ho
              exact mkI_ok hR hu hel (ev_ok he h1) (ev_ok he h2) h
            · cases ho
          · cases ho
        · injection ho with ho; subst ho
          exact mk_ok hR hu hel (ev_ok he h1) (ev_ok he h2) h
      · cases ho
    · cases ho
  case panic x => obtain ⟨_, _, rfl⟩ := opt_map ho; cases hnc
  case call c =>
    obtain ⟨callee, args, argTypes⟩ := c
    simp only at ho
    split at ho
    · split at ho
      · obtain ⟨l, hl, rfl⟩ := opt_map ho
        cases hnc
      · cases ho
    · obtain ⟨l, hl, rfl⟩ := opt_map ho
      cases hnc
    · rename_i b
      unfold trBuiltin at ho
      split at ho
      · rename_i x t ha ht
        split at ho
        · rename_i s ax h1 h2
          injection ho with ho; subst ho
          have ea : args = #[x] := by rw [← Array.toArray_toList (xs := args), ha]
          have et : argTypes = #[t] := by rw [← Array.toArray_toList (xs := argTypes), ht]
          subst ea; subst et
          exact absurd rfl hfl
        · cases ho
      · rename_i d s t u ha ht
        split at ho
        · rename_i e ad as hu h1 h2
          split at ho
          · rename_i hsrc
            have ea : args = #[d, s] := by rw [← Array.toArray_toList (xs := args), ha]
            have et : argTypes = #[t, u] := by rw [← Array.toArray_toList (xs := argTypes), ht]
            subst ea; subst et
            split at ho
            · rename_i sz bytes z hel
              obtain ⟨i, zv, hi, rfl, rfl, hzz, hzs, hp, hby, hv⟩ := elOf_ok hel
              split at ho
              · rename_i k hk
                split at ho
                · rename_i hsz
                  injection ho with ho; subst ho
                  have := appI_ok (ty := o.type) hR hu hsrc hi hzz hzs hsz hby (ev_ok he h1) (ev_ok he h2) h
                  simp only [execOp, hop, resolve, invoke, builtin, Sem.run_bind, Sem.run_pure, Result.andThen_ok] at this ⊢
                  simpa using this
                · cases ho
              · injection ho with ho; subst ho
                have := app_ok (ty := o.type) hR hu hsrc hi hzz hzs hby (ev_ok he h1) (ev_ok he h2) h
                simp only [execOp, hop, resolve, invoke, builtin, Sem.run_bind, Sem.run_pure, Result.andThen_ok] at this ⊢
                simpa using this
            · cases ho
          · cases ho
        · cases ho
      · cases ho
    · cases ho
  all_goals (repeat' (first | (cases ho; done) | (injection ho with ho; subst ho; exact absurd rfl hfl) | (obtain ⟨_, _, e⟩ := opt_map ho; subst e; exact absurd rfl hfl) | split at ho))
theorem trOs_ev (he : EnvR E env a) : ∀ (ys : List Operand) (xs : List AO), trOs ys = some xs → TVl E (xs.map (ev env)) (ys.map a.eval)
  | [], xs, h => by simp only [trOs] at h; injection h with h; subst h; exact TVl_nil.2 rfl
  | y :: r, xs, h => by
    simp only [trOs] at h
    split at h
    · rename_i ax l h1 h2
      injection h with h; subst h
      exact TVl_cons.2 ⟨_, _, rfl, ev_ok he h1, trOs_ev he r l h2⟩
    · cases h
theorem x_ok {o : Oper} {xo : XOp} {ys : List Operand} {vs : List AV} (ho : trX P o.op = some (xo, ys)) (hR : Rep E A w) (hv : TVl E vs (ys.map a.eval)) (h : xop xo vs A K) :
    (xo.floats = true → ResV E A w K ((execOp a.eval o).run P w)) ∧ (xo.floats = false → Res E w K ((execOp a.eval o).run P w)) := by
  have one : ∀ {c : Value}, TVl E vs [c] → ∃ x, vs = [x] ∧ TV E x c := by
    intro c hv
    match vs, hv with
    | [], hv => rw [TVl_nil] at hv; cases hv
    | x :: r, hv =>
      obtain ⟨c', cr, e, hx, hr⟩ := TVl_cons.1 hv
      injection e with e1 e2; subst e1; subst e2
      match r, hr with
      | [], _ => exact ⟨x, rfl, hx⟩
      | y :: _, hr => obtain ⟨_, _, e, _⟩ := TVl_cons.1 hr; cases e
  have two : ∀ {c d : Value}, TVl E vs [c, d] → ∃ x y, vs = [x, y] ∧ TV E x c ∧ TV E y d := by
    intro c d hv
    match vs, hv with
    | [], hv => rw [TVl_nil] at hv; cases hv
    | x :: r, hv =>
      obtain ⟨c', cr, e, hx, hr⟩ := TVl_cons.1 hv
      injection e with e1 e2; subst e1; subst e2
      match r, hr with
      | [], hr => rw [TVl_nil] at hr; cases hr
      | y :: r, hr =>
        obtain ⟨c', cr, e, hy, hr⟩ := TVl_cons.1 hr
        injection e with e1 e2; subst e1; subst e2
        match r, hr with
        | [], _ => exact ⟨x, y, rfl, hx, hy⟩
        | _ :: _, hr => obtain ⟨_, _, e, _⟩ := TVl_cons.1 hr; cases e
  by_cases hp : ∃ po, xo = .p po
  · obtain ⟨po, rfl⟩ := hp
    refine ⟨fun _ => ?_, fun hf => by cases hf⟩
    simp only [xop] at h
    split at h
    · rename_i v hpv
      obtain ⟨c, h1, h2⟩ := p_ok (P := P) (w := w) ho hv hpv
      exact ⟨v, c, h, h1, h2⟩
    · exact h.elim
  cases hop : o.op <;> rw [hop] at ho <;> simp only [trX] at ho <;> try (cases ho; done)
  case binOp => exact absurd (by (repeat' split at ho) <;> first | (cases ho; done) | (injection ho with ho; injection ho with ho _; exact ⟨_, ho.symm⟩)) hp
  case makeInterface => exact absurd (by (repeat' split at ho) <;> first | (cases ho; done) | (injection ho with ho; injection ho with ho _; exact ⟨_, ho.symm⟩)) hp
  case makeFunc => exact absurd (by (repeat' split at ho) <;> first | (cases ho; done) | (injection ho with ho; injection ho with ho _; exact ⟨_, ho.symm⟩)) hp
  case nilCheck => exact absurd (by injection ho with ho; injection ho with ho _; exact ⟨_, ho.symm⟩) hp
  case slice => exact absurd (by (repeat' split at ho) <;> first | (cases ho; done) | (injection ho with ho; injection ho with ho _; exact ⟨_, ho.symm⟩)) hp
  case makeMap t r =>
    split at ho
    · rename_i k e ht
      simp only [Option.map_eq_some_iff] at ho
      obtain ⟨kd, hk, ho⟩ := ho
      injection ho with e1 e2; subst e1; subst e2
      refine ⟨fun hf => (by cases hf), fun _ => ?_⟩
      have : vs = [] := by
        cases vs with
        | nil => rfl
        | cons x r => obtain ⟨_, _, e, _⟩ := TVl_cons.1 hv; cases e
      subst this
      simp only [execOp, hop, Option.map_none]
      exact mkM_ok (t := t) (k := k) (e := e) hR h
    · cases ho
  case mapUpdate t m x y =>
    split at ho
    · rename_i k e ht
      simp only [Option.map_eq_some_iff] at ho
      obtain ⟨kd, hk, ho⟩ := ho
      injection ho with e1 e2; subst e1; subst e2
      refine ⟨fun hf => (by cases hf), fun _ => ?_⟩
      match vs, hv with
      | [], hv => rw [TVl_nil] at hv; cases hv
      | v1 :: r, hv =>
        obtain ⟨c1, cr, e0, h1, hr⟩ := TVl_cons.1 hv
        injection e0 with e1 e2; subst e1; subst e2
        match r, hr with
        | [], hr => rw [TVl_nil] at hr; cases hr
        | v2 :: r, hr =>
          obtain ⟨c2, cr, e0, h2, hr⟩ := TVl_cons.1 hr
          injection e0 with e1 e2; subst e1; subst e2
          match r, hr with
          | [], hr => rw [TVl_nil] at hr; cases hr
          | v3 :: r, hr =>
            obtain ⟨c3, cr, e0, h3, hr⟩ := TVl_cons.1 hr
            injection e0 with e1 e2; subst e1; subst e2
            match r, hr with
            | [], _ =>
              simp only [execOp, hop]
              exact upM_ok hR ht hk h1 h2 h3 h
            | _ :: _, hr => obtain ⟨_, _, e, _⟩ := TVl_cons.1 hr; cases e
    · cases ho
  case lookup t m x ok =>
    split at ho
    · rename_i k e ht
      split at ho
      · rename_i kd sz by' z hk hz
        split at ho
        · rename_i hzk
          injection ho with ho; injection ho with e1 e2; subst e1; subst e2
          refine ⟨fun hf => (by cases hf), fun _ => ?_⟩
          obtain ⟨v1, v2, rfl, h1, h2⟩ := two hv
          simp only [execOp, hop]
          exact (lkM_ok hR ht hk hz hzk h1 h2 h).res hR
        · cases ho
      · cases ho
    · cases ho
  case typeAssert => exact absurd (by (repeat' split at ho) <;> first | (cases ho; done) | (injection ho with ho; injection ho with ho _; exact ⟨_, ho.symm⟩)) hp
  case convert s t x =>
    split at ho
    · rename_i e e' h1 h2
      split at ho
      · rename_i hh
        injection ho with ho; injection ho with e1 e2; subst e1; subst e2
        refine ⟨fun hf => (by cases hf), fun _ => ?_⟩
        obtain ⟨x', rfl, hx⟩ := one hv
        simp only [execOp, hop]
        exact seal_ok hR h1 h2 hh.1 (isU8_ok hh.2) hx h
      · cases ho
    · rename_i e h1 h2
      split at ho
      · rename_i hh
        injection ho with ho; injection ho with e1 e2; subst e1; subst e2
        refine ⟨fun _ => ?_, fun hf => by cases hf⟩
        obtain ⟨x', rfl, hx⟩ := one hv
        simp only [execOp, hop]
        exact bstr_ok hR h1 h2 (isU8_ok hh) hx h
      · cases ho
    · rename_i e h1 h2
      split at ho
      · rename_i hh
        injection ho with ho; injection ho with e1 e2; subst e1; subst e2
        refine ⟨fun hf => (by cases hf), fun _ => ?_⟩
        obtain ⟨x', rfl, hx⟩ := one hv
        simp only [execOp, hop]
        exact strB_ok hR h1 h2 (isU8_ok hh) hx h
      · cases ho
    · cases ho
  case index t x i =>
    split at ho
    · rename_i m e h1
      split at ho
      · rename_i sh sz h2
        injection ho with ho; injection ho with e1 e2; subst e1; subst e2
        refine ⟨fun _ => ?_, fun hf => by cases hf⟩
        obtain ⟨x', i', rfl, hx, hi⟩ := two hv
        simp only [execOp, hop]
        exact idxV_ok hR h1 h2 hx hi h
      · cases ho
    · exact absurd (by injection ho with ho; injection ho with ho _; exact ⟨_, ho.symm⟩) hp
    · cases ho
  case call c =>
    split at ho
    · rename_i d s t u hcal hargs htys
      split at ho
      · rename_i e k' ht hu
        split at ho
        · rename_i sz bytes k nz k2 hel hik
          split at ho
          · rename_i hh
            obtain ⟨rfl, rfl, rfl⟩ := hh
            injection ho with ho; injection ho with e1 e2; subst e1; subst e2
            refine ⟨fun hf => (by cases hf), fun _ => ?_⟩
            obtain ⟨x', s', rfl, hx, hs⟩ := two hv
            obtain ⟨i, zv, hi, hsz, rfl, hz, hzs, hp, hby, hvr⟩ := elOf_ok hel
            have hzc : zv.cells = #[.int k 0] := by
              have := hvr { loc := fun _ => ⟨none, 0, 0⟩, N := 0, F := fun _ => none }
              simp only [VR] at this
              rw [← Array.toArray_toList (xs := zv.cells), this]
            obtain ⟨callee, args, argTypes⟩ := c
            simp only at hcal hargs htys
            subst hcal
            have ea : args = #[d, s] := by rw [← Array.toArray_toList (xs := args), hargs]
            have et : argTypes = #[t, u] := by rw [← Array.toArray_toList (xs := argTypes), htys]
            subst ea; subst et
            have := appZ_ok (ty := o.type) hR ht hu hi hz hzc hsz hby hx hs h
            simp only [execOp, hop, resolve, invoke, builtin, Sem.run_bind, Sem.run_pure, Result.andThen_ok] at this ⊢
            simpa using this
          · cases ho
        · cases ho
      · cases ho
    · exact absurd (by injection ho with ho; injection ho with ho _; exact ⟨_, ho.symm⟩) hp
    · exact absurd (by injection ho with ho; injection ho with ho _; exact ⟨_, ho.symm⟩) hp
    · cases ho
theorem trOp_cases {P : Program} {o : Op} {ao : AOp} (h : trOp P o = some ao) : trOp0 P o = some ao ∨ ∃ xo ys xs, trX P o = some (xo, ys) ∧ trOs ys = some xs ∧ ao = .xx xo xs := by
  unfold trOp at h
  split at h
  · rename_i a ha; injection h with h; subst h; exact .inl ha
  · split at h
    · rename_i xo ys hx
      obtain ⟨xs, h1, h2⟩ := opt_map h
      exact .inr ⟨xo, ys, xs, hx, h1, h2⟩
    · cases h
theorem fl_ok {o : Oper} {ao : AOp} (ho : trOp P o.op = some ao) (hf : ao.floats = true) (hni : ∀ sz x i, ao = .idx sz x i → ev env x ≠ .nilS) (hR : Rep E A w) (he : EnvR E env a) (h : aop P ao env A K Kp) :
    ResV E A w K ((execOp a.eval o).run P w) := by
  rcases trOp_cases ho with ho | ⟨xo, ys, xs, h1, h2, rfl⟩
  · exact fl_ok0 ho hf hni hR he h
  · exact (x_ok h1 hR (trOs_ev he ys xs h2) h).1 hf
theorem op_ok {o : Oper} {ao : AOp} (ho : trOp P o.op = some ao) (hnc : ao.acts = false) (hni : ∀ sz x i, ao = .idx sz x i → ev env x ≠ .nilS) (hR : Rep E A w) (he : EnvR E env a) (h : aop P ao env A K Kp) :
    Res E w K ((execOp a.eval o).run P w) := by
  rcases trOp_cases ho with ho | ⟨xo, ys, xs, h1, h2, rfl⟩
  · exact op_ok0 ho hnc hni hR he h
  · cases hf : xo.floats with
    | true => exact ((x_ok h1 hR (trOs_ev he ys xs h2) h).1 hf).res hR
    | false => exact (x_ok h1 hR (trOs_ev he ys xs h2) h).2 hf
end
end AVL
