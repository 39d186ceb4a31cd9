/- Texts of this claim, in order: Vp Vv Vy Vw Vz Vu Vsl Vsm Vst Vsn Vsp. -/
import Derived.Test.YtkmlndihdcplfaaL3
import Derived.Recover
import Derived.RangeFuncLeaves
import Derived.Below
import Derived.Carry
import Derived.ChangeCalls
import Derived.ChangeSame
import Derived.WalkKit
import Derived.ProofKit
import Derived.OpenShut
import Derived.ChangeOld
import Derived.Laws.Strings
/- Functions. -/
namespace AVL
open Go
set_option linter.unusedSimpArgs false
set_option linter.unusedVariables false

inductive ARes where
  | tmp (t : Nat)
  | cell (t : Nat) (sh : Sh) (sz : Nat)
structure AFunc where
  res : List ARes
  body : ACode

def aress (env : AEnv) (A : Heap) : List ARes → (List AV → Prop) → Prop
  | [], K => K []
  | .tmp t :: r, K => aress env A r fun vs => K (env t :: vs)
  | .cell t sh sz :: r, K => aload sh sz (env t) A fun v _ => aress env A r fun vs => K (v :: vs)
def outOf : List AV → AV
  | [v] => v
  | vs => .tuple vs
/-- The environment at a function's entry. -/
def env0 (args : List AV) : AEnv := fun i => args.getD i .undef
def fpost (res : List ARes) (K : AOut → Heap → Prop) : APost := fun e env A => match e with
  | .normal => aress env A res fun vs => ∃ B : Heap, B.Sub A ∧ K (.ret (outOf vs)) B
  | .ret => aress env A res fun vs => ∃ B : Heap, B.Sub A ∧ K (.ret (outOf vs)) B
  | .pan v => ∃ B : Heap, B.Sub A ∧ K (.pan v) B
  | .exit _ => False

def trRes (P : Program) : List ResultVar → Option (List ARes)
  | [] => some []
  | .tmp t :: r => (trRes P r).map (.tmp t :: ·)
  | .cell a t :: r => match shOf P t, trRes P r with
    | some (sh, sz), some l => some (.cell a sh sz :: l)
    | _, _ => none
def trF (P : Program) (fn : Func) : Option AFunc :=
  match fn.body with
  | some c => match trRes P fn.results.toList, trC P fn.ntmps c with
    | some r, some b => some { res := r, body := b }
    | _, _ => none
  | none => none

/-- A result as the machine reads it. -/
def resV (tmps : Array Value) : ResultVar → Sem Value
  | .tmp t => pure (tmps.getD t undef)
  | .cell a t => do loadVar t (← asAddr (tmps.getD a undef))
section
variable {P : Program}
theorem aress_ok {E : Emb} {A : Heap} {w : World} {env : AEnv} {a : Act} (hR : Rep E A w) (he : EnvR E env a) : ∀ (rs : List ResultVar) (ars : List ARes) (K : List AV → Prop), trRes P rs = some ars → aress env A ars K →
    ∃ vs cs, K vs ∧ (rs.mapM (resV a.tmps)).run P w = .ok cs w ∧ TVl E vs cs
  | [], ars, K, ht, h => by
    simp only [trRes] at ht; injection ht with ht; subst ht
    exact ⟨[], [], h, rfl, TVl_nil.2 rfl⟩
  | .tmp t :: r, ars, K, ht, h => by
    simp only [trRes] at ht
    obtain ⟨l, hl, rfl⟩ := opt_map ht
    simp only [aress] at h
    obtain ⟨vs, cs, hk, hr, hT⟩ := aress_ok hR he r l _ hl h
    refine ⟨_, a.tmps.getD t undef :: cs, hk, ?_, TVl_cons.2 ⟨_, _, rfl, he t, hT⟩⟩
    simp only [List.mapM_cons, Sem.run_bind, resV, Sem.run_pure, Result.andThen_ok]
    rw [hr]; rfl
  | .cell b t :: r, ars, K, ht, h => by
    simp only [trRes] at ht
    split at ht
    · rename_i sh sz l hs hl
      injection ht with ht; subst ht
      simp only [aress] at h
      obtain ⟨ad, v, d, hc, hrun, hv, h⟩ := load_run hR hs (he b) h
      obtain ⟨vs, cs, hk, hr, hT⟩ := aress_ok hR he r l _ hl h
      refine ⟨_, d :: cs, hk, ?_, TVl_cons.2 ⟨_, _, rfl, hv, hT⟩⟩
      have h1 : (resV a.tmps (.cell b t)).run P w = .ok d w := by simp only [resV, hc, asAddr, Sem.run_bind, Sem.run_pure, Result.andThen_ok, hrun]
      simp only [List.mapM_cons, Sem.run_bind, h1, Result.andThen_ok, hr, Sem.run_pure]
    · cases ht

theorem run_results {fn : Func} {a : Act} {w : World} {cs : List Value} (h : (fn.results.toList.mapM (resV a.tmps)).run P w = .ok cs w) :
    (results fn a.tmps).run P w = .ok (if h : cs.toArray.size = 1 then cs.toArray[0] else .tuple cs.toArray) w := by
  have e : results fn a.tmps = (do
      let vs ← fn.results.mapM (resV a.tmps)
      pure (if h : vs.size = 1 then vs[0] else .tuple vs)) := by
    unfold results
    congr 1
  rw [e, Array.mapM_eq_mapM_toList]
  show (((fn.results.toList.mapM (resV a.tmps) >>= (pure ∘ List.toArray)) : Sem (Array Value)) >>= fun vs => pure (if h : vs.size = 1 then vs[0] else .tuple vs)).run P w = _
  rw [Sem.run_bind, Sem.run_bind, h]
  rfl

theorem out_ok {E : Emb} {vs : List AV} {cs : List Value} (h : TVl E vs cs) : TV E (outOf vs) (if h : cs.toArray.size = 1 then cs.toArray[0] else .tuple cs.toArray) := by
  match vs, cs, h with
  | [], cs, h =>
    rw [TVl_nil] at h; subst h
    simp [outOf, TV_tuple, TVl_nil]
  | [v], cs, h =>
    obtain ⟨c, cr, rfl, hc, hr⟩ := TVl_cons.1 h
    rw [TVl_nil] at hr; subst hr
    simpa [outOf] using hc
  | v :: v' :: r, cs, h =>
    obtain ⟨c, cr, rfl, hc, hr⟩ := TVl_cons.1 h
    obtain ⟨c', cr', rfl, hc', hr'⟩ := TVl_cons.1 hr
    simp [outOf, TV_tuple]
    exact TVl_cons.2 ⟨_, _, rfl, hc, TVl_cons.2 ⟨_, _, rfl, hc', hr'⟩⟩

theorem env0_ok {E : Emb} {args : List AV} {cargs : Array Value} {D : List Deferred} {n : Nat} (hT : TVl E args cargs.toList) (hn : args.length ≤ n) :
    args.length = cargs.size ∧ EnvR E (env0 args) { tmps := cargs ++ Array.replicate (n - cargs.size) undef, defers := D } := by
  have hlen : args.length = cargs.size := by
    have key : ∀ (l : List AV) (cs : List Value), TVl E l cs → l.length = cs.length := by
      intro l
      induction l with
      | nil => intro cs h; rw [TVl_nil] at h; subst h; rfl
      | cons v r ih =>
        intro cs h
        obtain ⟨c, cr, rfl, _, hr⟩ := TVl_cons.1 h
        simp [ih cr hr]
    simpa using key args cargs.toList hT
  refine ⟨hlen, fun i => ?_⟩
  simp only [env0]
  by_cases hi : i < args.length
  · obtain ⟨c, hc, hv⟩ := TVl_get hT (List.getElem?_eq_getElem hi)
    have e1 : args.getD i .undef = args[i] := by simp [List.getD_eq_getElem?_getD, hi]
    rw [e1]
    have e2 : (cargs ++ Array.replicate (n - cargs.size) undef).getD i undef = c := by
      rw [Array.getD_eq_getD_getElem?, Array.getElem?_append_left (by omega)]
      have : cargs[i]? = some c := by simpa using hc
      rw [this]; rfl
    rw [e2]; exact hv
  · have e1 : args.getD i .undef = .undef := by simp [List.getD_eq_getElem?_getD, List.getElem?_eq_none (Nat.le_of_not_lt hi)]
    rw [e1]
    have hc : cargs.size ≤ i := by omega
    refine TV_undef _ _ ?_
    rw [Array.getD_eq_getD_getElem?, Array.getElem?_append_right hc, Array.getElem?_replicate]
    split <;> rfl
/-! what is left at a call's end -/
theorem Rep.unmark {E0 E : Emb} {A0 A : Heap} {w0 w w' : World} {ms : List Nat} (h0 : Rep E0 A0 w0) (h : Rep E A w) (hE : E0.Le E) (hM : Marks E w0 w ms) (hw : ∀ x, x ∉ ms → w'.heap[x]? = w.heap[x]?) :
    Rep { E with H := E0.H } A w' := by
  have le0 : E.Le0 { E with H := E0.H } := ⟨Nat.le_refl _, fun _ _ => rfl, fun _ _ h => h⟩
  have out : ∀ b, (∃ o, E.F b = some o) ∨ (∃ g c off, A g = some c ∧ (E.loc g).addr = some (b, off)) → b ∉ ms := by
    intro b hb hm
    have h1 := h.hid b _ (hM.held b hm)
    rcases hb with ⟨o, ho⟩ | ⟨g, c, off, hg, ha⟩
    · rw [h1.2.1] at ho; cases ho
    · exact h1.2.2 g c hg off ha
  refine ⟨fun b o hb => ?_, h.lt, fun g c hg => ?_, h.sep, h.low, h.lon, fun b o hb => ?_⟩
  · rw [hw b (out b (.inl ⟨o, hb⟩))]; exact h.frm b o hb
  · exact RepC_mono0 le0 (h.lt g c hg) (h.cont g c hg) (fun b off ha => (h.blk hg ha).2) fun b off ha => hw b (out b (.inr ⟨g, c, off, hg, ha⟩))
  · have hlt : b < w0.heap.size := (Array.getElem?_eq_some_iff.1 (h0.hid b o hb).1).1
    have hn : b ∉ ms := fun hm => by have := hM.new b hm; omega
    have h1 := h.hid b o (hE.H _ _ hb)
    rw [hw b hn]; exact h1
theorem leaves_marks {fn : Func} {tmps : Array Value} {R : Ending → World → Prop} {u : FrameMode} (hu : u ≠ .run) : ∀ (ms : List Nat) (w : World), ms.Nodup → (∀ b ∈ ms, w.heap[b]? = some (.deferred (some []))) →
    (∀ w', (∀ x, x ∉ ms → w'.heap[x]? = w.heap[x]?) → Same w w' → LeavesIn (Fr none) 0 P fn tmps R [] u w') → LeavesInM (Fr none) 0 P fn tmps R (ms.map mark) u w
  | [], w, _, _, h => h w (fun _ _ => rfl) (Same.refl w)
  | b :: r, w, hn, hb, h => by
    have hb1 := hb b (by simp)
    obtain ⟨hbr, hnr⟩ := List.nodup_cons.1 hn
    refine ⟨hu, .inl ⟨b, _, rfl, run_takeDeferred hb1, ?_⟩⟩
    refine leaves_marks hu r _ hnr (fun x hx => ?_) fun w' hw hS => ?_
    · have : x ≠ b := fun e => by subst e; exact hbr hx
      rw [World.putObj_heap_other this]; exact hb x (by simp [hx])
    · refine h w' (fun x hx => ?_) (⟨hS.os, hS.output, by have := hS.size; simpa using this⟩)
      simp only [List.mem_cons, not_or] at hx
      rw [hw x hx.2, World.putObj_heap_other hx.1]
/-- A function's text says what a call of it does. -/
theorem body_of {fn : Func} {af : AFunc} {args : List AV} {A : Heap} {K : AOut → Heap → Prop} (R : APost) (ht : trF P fn = some af) (hn : args.length ≤ fn.ntmps)
    (hRK : ∀ e env A, R e env A → fpost af.res K e env A) (h : aw P af.body R (env0 args) A) : ∀ E w (cargs : Array Value), Rep E A w → TVl E args cargs.toList →
    ∃ c, fn.body = some c ∧ c.wpIn (Fr none) 0 P (bodyPostM (Fr none) 0 P fn fun e w' => ∃ o A' E', K o A' ∧ Rep E' A' w' ∧ E.Le E' ∧ Same w w' ∧ OutR E' o e) { tmps := cargs ++ Array.replicate (fn.ntmps - cargs.size) undef, defers := [] } w ∧
      (hasRF c = false → c.wp P (bodyPost P fn fun e w' => ∃ o A' E', K o A' ∧ Rep E' A' w' ∧ E.Le E' ∧ Same w w' ∧ OutR E' o e) { tmps := cargs ++ Array.replicate (fn.ntmps - cargs.size) undef, defers := [] } w) := by
  intro E w cargs hR hT
  unfold trF at ht
  split at ht
  · rename_i c hb
    split at ht
    · rename_i rs b hrs hbd
      injection ht with ht; subst ht
      obtain ⟨hlen, he⟩ := env0_ok (D := []) hT hn
      have hwp := aw_ok (ro := none) c b hbd (fun e => absurd rfl e) _ _ A h [] E { tmps := cargs ++ Array.replicate (fn.ntmps - cargs.size) undef, defers := [] } w hR he (by simp; omega) rfl
      refine ⟨c, hb, wpIn_mono hwp ?_, fun hrf => (wpIn_wide (n := 0)).1 (wpIn_mono (F := Fr none) hwp ?_)⟩
      · rintro e a' w' ⟨ae, env', A', E', ms, hk, hx, hR', he', hE, hS, ha', hd', hM, _⟩
        replace hk := hRK _ _ _ hk
        rw [List.append_nil] at hd'
        have hheld : ∀ b ∈ ms, w'.heap[b]? = some (.deferred (some [])) := fun b hb => (hR'.hid b _ (hM.held b hb)).1
        have le0 : E'.Le0 { E' with H := E.H } := ⟨Nat.le_refl _, fun _ _ => rfl, fun _ _ h => h⟩
        have leF : E.Le { E' with H := E.H } := ⟨hE.n, hE.loc, hE.F, hE.lo, fun _ _ h => h⟩
        have retcase : aress env' A' rs (fun vs => ∃ B : Heap, B.Sub A' ∧ K (.ret (outOf vs)) B) → LeavesInM (Fr none) 0 P fn a'.tmps (fun e w' => ∃ o A' E', K o A' ∧ Rep E' A' w' ∧ E.Le E' ∧ Same w w' ∧ OutR E' o e) a'.defers .returning w' := by
          intro hk
          rw [hd']
          refine leaves_marks (by simp) ms w' hM.nodup hheld fun w2 hw2 hS2 => ?_
          have hR2 := hR.unmark hR' hE hM hw2
          obtain ⟨vs, cs, ⟨B, hB, hk⟩, hr, hT'⟩ := aress_ok hR2 (EnvR_mono0 le0 he') fn.results.toList rs _ hrs hk
          exact ⟨_, run_results hr, _, B, _, hk, hR2.sub hB, leF, hS.trans hS2, _, rfl, out_ok hT'⟩
        cases ae with
        | normal => cases hx; exact retcase hk
        | ret => cases hx; exact retcase hk
        | exit id => exact hk.elim
        | pan v =>
          obtain ⟨c, rfl, hc⟩ := hx
          obtain ⟨B, hB, hk⟩ := hk
          show LeavesInM _ _ _ _ _ _ _ _ _
          rw [hd']
          refine leaves_marks (by simp) ms w' hM.nodup hheld fun w2 hw2 hS2 => ?_
          have hR2 := hR.unmark hR' hE hM hw2
          exact ⟨_, B, _, hk, hR2.sub hB, leF, hS.trans hS2, c, rfl, TV_mono0 le0 hc⟩
      · rintro e a' w' ⟨ae, env', A', E', ms, hk, hx, hR', he', hE, hS, ha', hd', hM, hm⟩
        replace hk := hRK _ _ _ hk
        rw [hm hrf] at hd'
        have retcase : aress env' A' rs (fun vs => ∃ B : Heap, B.Sub A' ∧ K (.ret (outOf vs)) B) →
            a'.defers = [] ∧ ∃ v, (results fn a'.tmps).run P w' = .ok v w' ∧ (∃ o A' E', K o A' ∧ Rep E' A' w' ∧ E.Le E' ∧ Same w w' ∧ OutR E' o (.returned v)) := by
          intro hk
          obtain ⟨vs, cs, ⟨B, hB, hk⟩, hr, hT'⟩ := aress_ok hR' he' fn.results.toList rs _ hrs hk
          exact ⟨hd', _, run_results hr, _, B, E', hk, hR'.sub hB, hE, hS, _, rfl, out_ok hT'⟩
        cases ae with
        | normal => cases hx; exact retcase hk
        | ret => cases hx; exact retcase hk
        | exit id => exact hk.elim
        | pan v =>
          obtain ⟨c, rfl, hc⟩ := hx
          obtain ⟨B, hB, hk⟩ := hk
          exact ⟨hd', _, B, E', hk, hR'.sub hB, hE, hS, c, rfl, hc⟩
    · cases ht
  · cases ht
theorem sim_of2 {f : FuncId} {fn : Func} {af : AFunc} {args : List AV} {A : Heap} {K : AOut → Heap → Prop} (R : APost) (hf : P.funcs[f]? = some fn) (ht : trF P fn = some af) (hn : args.length ≤ fn.ntmps)
    (hRK : ∀ e env A, R e env A → fpost af.res K e env A) (h : aw P af.body R (env0 args) A) : SimX P f args A K := fun E w cargs hR hT =>
  let ⟨_, hb, hw, _⟩ := body_of R ht hn hRK h E w cargs hR hT
  callsIn_Fr.1 (callsIn_of_wp_marks hf hb trivial hw)
/-- Has a function a range over a function? -/
def Func.hasRF (fn : Func) : Bool := match fn.body with
  | some c => AVL.hasRF c
  | none => false
/-! code without a range over a function, outside of the fence -/
def ACode.rf : ACode → Bool
  | .seq a b | .cond _ a b => a.rf || b.rf
  | .block _ c | .loop c => c.rf
  | .rangeF .. => true
  | _ => false
theorem trC_rf {n : Nat} : ∀ (c : Code) (ac : ACode), trC P n c = some ac → hasRF c = ac.rf
  | .skip, ac, h => by simp only [trC] at h; injection h with h; subst h; rfl
  | .exit id, ac, h => by simp only [trC] at h; injection h with h; subst h; rfl
  | .ret, ac, h => by simp only [trC] at h; injection h with h; subst h; rfl
  | .region id ops draw, ac, h => by
    cases draw with
    | true =>
      simp only [trC] at h
      split at h
      · split at h
        · injection h with h; subst h; rfl
        · obtain ⟨_, _, rfl⟩ := opt_map h; rfl
      · cases h
    | false =>
      simp only [trC] at h
      obtain ⟨_, _, rfl⟩ := opt_map h; rfl
  | .seq x y, ac, h => by
    simp only [trC] at h
    split at h
    · rename_i ax ay h1 h2
      injection h with h; subst h
      simp only [hasRF, ACode.rf, trC_rf x ax h1, trC_rf y ay h2]
    · cases h
  | .cond c x y, ac, h => by
    simp only [trC] at h
    split at h
    · rename_i cc ax ay h0 h1 h2
      injection h with h; subst h
      simp only [hasRF, ACode.rf, trC_rf x ax h1, trC_rf y ay h2]
    · cases h
  | .block id c, ac, h => by
    simp only [trC] at h
    obtain ⟨ax, hx, rfl⟩ := opt_map h
    simp only [hasRF, ACode.rf, trC_rf c ax hx]
  | .loop c, ac, h => by
    simp only [trC] at h
    obtain ⟨ax, hx, rfl⟩ := opt_map h
    simp only [hasRF, ACode.rf, trC_rf c ax hx]
  | .rangeFunc f ps asg body, ac, h => by
    simp only [trC] at h
    obtain ⟨ax, hx, rfl⟩ := opt_map h
    rfl
  | .scope c, ac, h => by
    simp only [trC] at h
    simpa only [hasRF] using trC_rf c ac h
  | .label _, ac, h => by
    simp only [trC] at h
    injection h with h
    subst h
    rfl
  | .goto _, ac, h => by simp [trC] at h
  | .refuse _, ac, h => by simp [trC] at h
def LiftU (D : List Deferred) (n : Nat) (E0 : Emb) (w0 : World) (K : APost) : Exit → Act → World → Prop := fun e a w =>
  ∃ ae env A E, K ae env A ∧ ExR E ae e ∧ Rep E A w ∧ EnvR E env a ∧ E0.Le E ∧ Same w0 w ∧ a.tmps.size = n ∧ a.defers = D
theorem aw_okU {D : List Deferred} {n : Nat} (c : Code) (ac : ACode) (ht : trC P n c = some ac) (K : APost) (env : AEnv) (A : Heap) (h : aw P ac K env A) (E : Emb) (a : Act) (w : World) (hR : Rep E A w) (he : EnvR E env a) (ha : a.tmps.size = n) (hd : a.defers = D) (hrf : ac.rf = false := by rfl) :
    c.wp P (LiftU D n E w K) a w := by
  have hr : hasRF c = false := by rw [trC_rf c ac ht]; exact hrf
  refine (wpIn_wide (n := 0)).1 (wpIn_mono (F := Fr none) (aw_ok (ro := none) c ac ht (fun e => absurd rfl e) K env A h D E a w hR he ha hd) ?_)
  rintro e a' w' ⟨ae, env', A', E', ms, hk, hx, hR', he', hE, hS, ha', hd', hM, hm⟩
  have := hm hr
  subst this
  exact ⟨ae, env', A', E', hk, hx, hR', he', hE, hS, ha', by simpa using hd'⟩
/-- What a deferred call does, told by abstract values. -/
def SimD (P : Program) (f : FuncId) (args : List AV) (A : Heap) (K : AOut → Heap → Prop) : Prop :=
  ∀ E w (cargs : Array Value) (u : FrameMode), Rep E A w → TVl E args cargs.toList → CallsD P f cargs u w fun e u' w' => u' = u ∧ ∃ o A' E', K o A' ∧ Rep E' A' w' ∧ E.Le E' ∧ Same w w' ∧ OutR E' o e
theorem simD_of2 {f : FuncId} {fn : Func} {af : AFunc} {args : List AV} {A : Heap} {K : AOut → Heap → Prop} (R : APost) (hf : P.funcs[f]? = some fn) (ht : trF P fn = some af) (hn : args.length ≤ fn.ntmps)
    (hRK : ∀ e env A, R e env A → fpost af.res K e env A) (h : aw P af.body R (env0 args) A) (hrf : AVL.Func.hasRF fn = false) : SimD P f args A K := fun E w cargs u hR hT =>
  let ⟨c, hb, _, hw⟩ := body_of R ht hn hRK h E w cargs hR hT
  callsD_of_wp hf hb (hw (by simpa [AVL.Func.hasRF, hb] using hrf))
theorem sim_of {f : FuncId} {fn : Func} {af : AFunc} {args : List AV} {A : Heap} {K : AOut → Heap → Prop} (hf : P.funcs[f]? = some fn) (ht : trF P fn = some af) (hn : args.length ≤ fn.ntmps)
    (h : aw P af.body (fpost af.res K) (env0 args) A) : SimX P f args A K := sim_of2 _ hf ht hn (fun _ _ _ h => h) h
theorem aress_mono {env : AEnv} {A : Heap} : ∀ {r : List ARes} {F G : List AV → Prop}, (∀ vs, F vs → G vs) → aress env A r F → aress env A r G
  | [], F, G, hh, h => hh _ h
  | .tmp t :: r, F, G, hh, h => aress_mono (r := r) (fun vs hv => hh _ hv) h
  | .cell t sh sz :: r, F, G, hh, h => by
    simp only [aress] at h ⊢
    obtain ⟨v, h1, _, h3⟩ := (uni_aload sh sz (env t) A).1 _ _ h h
    exact h3 _ (aress_mono (fun vs hv => hh _ hv) h1)
/-- A call that is looked into. -/
def inl (res : List ARes) (K Kp : AV → Heap → Prop) : APost := fun e env A => match e with
  | .normal => aress env A res fun vs => K (outOf vs) A
  | .ret => aress env A res fun vs => K (outOf vs) A
  | .pan v => Kp v A
  | .exit _ => False
theorem inl_post {res : List ARes} {K Kp : AV → Heap → Prop} (e : AEx) (env : AEnv) (A : Heap) (hh : inl res K Kp e env A) : fpost res (outK K Kp) e env A := by
  cases e with
  | normal => exact aress_mono (fun vs hv => ⟨A, fun _ _ h => h, hv⟩) hh
  | ret => exact aress_mono (fun vs hv => ⟨A, fun _ _ h => h, hv⟩) hh
  | exit _ => exact hh.elim
  | pan v => exact ⟨A, fun _ _ h => h, hh⟩
theorem inl_of {f : FuncId} {fn : Func} {af : AFunc} {args : List AV} {A : Heap} {K Kp : AV → Heap → Prop} (hf : P.funcs[f]? = some fn) (ht : trF P fn = some af) (hn : args.length ≤ fn.ntmps)
    (h : aw P af.body (inl af.res K Kp) (env0 args) A) : SimX P f args A (outK K Kp) := sim_of2 _ hf ht hn inl_post h
theorem inlD_of {f : FuncId} {fn : Func} {af : AFunc} {args : List AV} {A : Heap} {K Kp : AV → Heap → Prop} (hf : P.funcs[f]? = some fn) (ht : trF P fn = some af) (hn : args.length ≤ fn.ntmps)
    (h : aw P af.body (inl af.res K Kp) (env0 args) A) (hrf : AVL.Func.hasRF fn = false) : SimD P f args A (outK K Kp) := simD_of2 _ hf ht hn inl_post h hrf
end
end AVL

/- A call that is given what its caller owns, to look at alone. -/
namespace AVL
open Go
set_option linter.unusedSimpArgs false
set_option linter.unusedVariables false

mutual
inductive Vw (A : Heap) : AV → AV → Prop
  | refl (v : AV) : Vw A v v
  | nil (k : IntKind) : Vw A .nilS (.isl k [])
  | nilD (sz : Nat) : Vw A .nilS (.dsl sz [])
  | own {g i n : Nat} {t : TypeId} {k : IntKind} {l : List Int} : A g = some (.irow t k l) → i + n ≤ l.length → Vw A (.own g i n) (.isl k ((l.drop i).take n))
  | ownS {g i n : Nat} {t : TypeId} {k : IntKind} {l : List Int} : A g = some (.srow t k l) → i + n ≤ l.length → Vw A (.own g i n) (.isl k ((l.drop i).take n))
  | ownR {g i n : Nat} {t : TypeId} {sz : Nat} {l l' : List AV} : A g = some (.row t sz l) → i + n ≤ l.length → Vws A ((l.drop i).take n) l' → Vw A (.own g i n) (.dsl sz l')
  | asl {g o m i n : Nat} {t : TypeId} {l : List AV} {k : IntKind} {xs : List Int} : A g = some (.var t l) → getI l o m = some (k, xs) → xs.length = m → Vw A (.asl g o m i n) (.isl k ((xs.drop i).take n))
  | ptr {g : Nat} {t : TypeId} {l l' : List AV} : A g = some (.var t l) → Vws A l l' → Vw A (.ptr g 0) (.pval (.agg l'))
  | agg {l l' : List AV} : Vws A l l' → Vw A (.agg l) (.agg l')
inductive Vws (A : Heap) : List AV → List AV → Prop
  | nil : Vws A [] []
  | cons {v v' : AV} {l l' : List AV} : Vw A v v' → Vws A l l' → Vws A (v :: l) (v' :: l')
end

mutual
/-- Nothing in it leads to memory that stays as it is. -/
def AV.noF : AV → Bool
  | .agg l => AV.noFs l
  | .isl .. => false
  | .dsl .. => false
  | .pval _ => false
  | .func _ a b => AV.noFs a && AV.noFs b
  | .iface _ v => AV.noF v
  | .tuple l => AV.noFs l
  | _ => true
def AV.noFs : List AV → Bool
  | [] => true
  | v :: r => AV.noF v && AV.noFs r
end
def Cont.noF : Cont → Bool
  | .var _ l => AV.noFs l
  | .irow .. => true
  | .row _ _ l => AV.noFs l
  | .mp _ l => AV.noFs (l.map fun p => p.2)
  | .srow .. => true
  | .lp .. => false
def Heap.join (A B : Heap) : Heap := fun g => match A g with
  | some c => some c
  | none => B g

/-- What is seen when the whole world is held. -/
def Emb.all (E : Emb) (w : World) : Emb := { loc := E.loc, N := E.N, F := fun b => w.heap[b]?, lo := E.N }

section
variable {P : Program} {w : World} {E : Emb} {A : Heap}

theorem all_le (hR : Rep E A w) : E.Le0 (E.all w) := ⟨Nat.le_refl _, fun _ _ => rfl, hR.frm⟩
theorem all_rep : Rep (E.all w) (fun _ => none) w :=
  ⟨fun _ _ h => h, fun _ _ h => (by cases h), fun _ _ h => (by cases h), fun _ _ _ _ h => (by cases h), fun _ _ h => (by cases h), Nat.le_refl _, fun _ _ h => (by cases h)⟩

mutual
theorem vw_ok (hR : Rep E A w) : ∀ {v v' : AV} {cs : List Value}, Vw A v v' → VR E v cs → VR (E.all w) v' cs
  | _, _, cs, .refl v, h => VR_mono0 (all_le hR) v cs h
  | _, _, cs, .nil k, h => by simp only [VR] at h ⊢; exact ⟨none, 0, h, Nat.le_refl _, fun h => by simp at h⟩
  | _, _, cs, .nilD k, h => by simp only [VR] at h ⊢; exact ⟨none, 0, h, Nat.le_refl _, fun h => by simp at h⟩
  | _, _, cs, .agg hl, h => by unfold VR at h ⊢; exact vws_ok hR hl h
  | _, _, cs, .ownS (g := g) (i := i) (n := n) (k := k) (l := l) hA hin, h => by
    simp only [VR] at h ⊢
    obtain ⟨hg, a, cap, rfl, hcap, hroom, hloc⟩ := h
    obtain ⟨hsz, b, C, m, ha, hF, hb, hcs⟩ := hR.cont g _ hA
    have hl : ((l.drop i).take n).length = n := by simp; omega
    refine ⟨a, cap, by rw [hl], by omega, fun hp => ?_⟩
    rw [hl] at hp
    rcases hloc with h0 | ⟨b', off', ha', rfl⟩
    · exfalso; omega
    · rw [ha] at ha'; injection ha' with ha'; injection ha' with e1 e2; subst e1; subst e2
      rw [hsz, Nat.mul_one]
      refine ⟨b, 0 + i, rfl, fun j hj => ?_⟩
      rw [hl] at hj
      have := hcs (i + j) (by omega)
      simp only [Emb.cell, Emb.all, hb]
      rw [Nat.zero_add, this]
      simp [List.getElem?_take, hj, List.getElem?_drop]
  | _, _, cs, .own (g := g) (i := i) (n := n) (k := k) (l := l) hA hin, h => by
    simp only [VR] at h ⊢
    obtain ⟨hg, a, cap, rfl, hcap, hroom, hloc⟩ := h
    obtain ⟨hsz, hlr, hcs⟩ := hR.cont g _ hA
    have hl : ((l.drop i).take n).length = n := by simp; omega
    refine ⟨a, cap, by rw [hl], by omega, fun hp => ?_⟩
    rw [hl] at hp
    rcases hcs with ⟨hn0, hr0⟩ | ⟨b, off, C, ha, hF, hb, hC, hcs⟩
    · exfalso; omega
    · rcases hloc with h0 | ⟨b', off', ha', rfl⟩
      · exfalso; omega
      · rw [ha] at ha'; injection ha' with ha'; injection ha' with e1 e2; subst e1; subst e2
        rw [hsz, Nat.mul_one]
        refine ⟨b, off + i, rfl, fun j hj => ?_⟩
        rw [hl] at hj
        have := hcs (i + j) (by omega)
        obtain ⟨fz, hb, _⟩ := hb
        simp only [Emb.cell, Emb.all, hb]
        rw [Nat.add_assoc, this]
        simp [List.getElem?_take, hj, List.getElem?_drop]
  | _, _, cs, .ownR (g := g) (i := i) (n := n) (sz := sz) (l := l) (l' := l') hA hin hv, h => by
    simp only [VR] at h ⊢
    obtain ⟨hg, a, cap, rfl, hcap, hroom, hloc⟩ := h
    obtain ⟨hsz, hlr, hcs⟩ := hR.cont g _ hA
    have hl : ((l.drop i).take n).length = n := by simp; omega
    have hl' : l'.length = n := by rw [← vws_len hv, hl]
    refine ⟨a, cap, by rw [hl'], by omega, fun hp => ?_⟩
    rw [hl'] at hp
    rcases hcs with ⟨hn0, hr0⟩ | ⟨b, off, C, ha, hF, hb, hC, hcs⟩
    · exfalso; omega
    · rcases hloc with h0 | ⟨b', off', ha', rfl⟩
      · exfalso; omega
      · rw [ha] at ha'; injection ha' with ha'; injection ha' with e1 e2; subst e1; subst e2
        rw [hsz]
        refine ⟨b, off + i * sz, rfl, ?_⟩
        refine vws_row hR hv hb (fun j v hj => ?_)
        rw [List.getElem?_take] at hj
        split at hj
        · rw [List.getElem?_drop] at hj
          obtain ⟨cs, h1, h2, h3⟩ := hcs (i + j) v hj
          refine ⟨cs, h1, fun x hx => ?_, h3⟩
          rw [← h2 x hx]; congr 1; rw [Nat.add_mul]; omega
        · cases hj
  | _, _, cs, .asl (g := g) (o := o) (m := m) (i := i) (n := n) (l := l) (k := k) (xs := xs) hA hg hm, h => by
    simp only [VR] at h ⊢
    obtain ⟨hgN, him, a, rfl, hloc⟩ := h
    obtain ⟨b, ds, ha, hF, hb, hv⟩ := hR.cont g _ hA
    have hl : ((xs.drop i).take n).length = n := by simp; omega
    refine ⟨a, m - i, by rw [hl], by omega, fun hp => ?_⟩
    rw [hl] at hp
    rcases hloc with h0 | ⟨b', off', ha', rfl⟩
    · exfalso; omega
    · rw [ha] at ha'; injection ha' with ha'; injection ha' with e1 e2; subst e1; subst e2
      refine ⟨b, 0 + o + i, rfl, fun j hj => ?_⟩
      rw [hl] at hj
      obtain ⟨hle, hcs⟩ := getI_ok hv hg
      simp only [Emb.cell, Emb.all, hb]
      have := hcs (i + j) (by omega)
      rw [Nat.zero_add, Nat.add_assoc, List.getElem?_toArray, this]
      simp [List.getElem?_take, hj, List.getElem?_drop]
  | _, _, cs, .ptr (g := g) (l := l) hA hv, h => by
    simp only [VR] at h ⊢
    obtain ⟨hgN, b, off, ha, rfl⟩ := h
    obtain ⟨b', ds, ha', hF, hb, hds⟩ := hR.cont g _ hA
    rw [ha] at ha'; injection ha' with ha'; injection ha' with e1 e2; subst e1; subst e2
    have := vws_ok hR hv hds
    refine ⟨b, 0, ds, rfl, VRs_len _ _ this, fun j hj => ?_, this⟩
    simp [Emb.cell, Emb.all, hb]
theorem vws_ok (hR : Rep E A w) : ∀ {l l' : List AV} {cs : List Value}, Vws A l l' → VRs E l cs → VRs (E.all w) l' cs
  | _, _, cs, .nil, h => by simpa only [VRs] using h
  | _, _, cs, .cons h1 h2, h => by
    simp only [VRs] at h ⊢
    obtain ⟨c1, c2, e, h3, h4⟩ := h
    exact ⟨c1, c2, e, vw_ok hR h1 h3, vws_ok hR h2 h4⟩
theorem vws_row (hR : Rep E A w) : ∀ {l l' : List AV}, Vws A l l' → ∀ {b sz off : Nat} {C : Array Value} {t : TypeId}, Blk w b C t → (∀ j v, l[j]? = some v → ∃ cs : List Value, cs.length = sz ∧ (∀ x, x < sz → C[off + j * sz + x]? = cs[x]?) ∧ VR E v cs) → SR (E.all w) b sz off l'
  | _, _, .nil, b, sz, off, C, t, hb, h => by simp only [SR]
  | v0 :: _, _, .cons h1 h2, b, sz, off, C, t, hb, h => by
    simp only [SR]
    obtain ⟨cs, h3, h4, h5⟩ := h 0 v0 (by simp)
    refine ⟨⟨cs, h3, fun j hj => ?_, vw_ok hR h1 h5⟩, vws_row hR h2 hb fun j v hj => ?_⟩
    · obtain ⟨fz, hb, _⟩ := hb
      simp only [Emb.cell, Emb.all, hb]
      have := h4 j hj
      simpa using this
    · obtain ⟨cs, h3, h4, h5⟩ := h (j + 1) v (by simpa using hj)
      refine ⟨cs, h3, fun x hx => ?_, h5⟩
      rw [← h4 x hx]; congr 1; rw [Nat.add_mul]; omega
theorem vws_len : ∀ {l l' : List AV}, Vws A l l' → l.length = l'.length
  | _, _, .nil => rfl
  | _, _, .cons _ h => by simp [vws_len h]
end

/-! ### the way back -/
/-- What is known of the blocks that a call has made, told of its caller's names. -/
def Emb.back (E E1 : Emb) (w : World) : Emb := { loc := E1.loc, N := E1.N, F := fun b => if b < w.heap.size then E.F b else E1.F b, lo := E.lo, H := E.H }

mutual
theorem VR_back {E1 : Emb} : ∀ (v : AV) (cs : List Value), v.noF = true → VR E1 v cs → VR (E.back E1 w) v cs
  | .agg l, cs, hn, h => by unfold VR at h ⊢; exact VRs_back l cs (by simpa only [AV.noF] using hn) h
  | .undef, cs, hn, h => by simpa only [VR] using h
  | .int .., cs, hn, h => by simpa only [VR] using h
  | .bool .., cs, hn, h => by simpa only [VR] using h
  | .str .., cs, hn, h => by simpa only [VR] using h
  | .iarr .., cs, hn, h => by simpa only [VR] using h
  | .nilS, cs, hn, h => by simpa only [VR] using h
  | .isl .., cs, hn, h => by simp [AV.noF] at hn
  | .dsl .., cs, hn, h => by simp [AV.noF] at hn
  | .own .., cs, hn, h => by simp only [VR] at h ⊢; exact h
  | .asl .., cs, hn, h => by simp only [VR] at h ⊢; exact h
  | .ptr .., cs, hn, h => by simp only [VR] at h ⊢; exact h
  | .pix .., cs, hn, h => by simp only [VR] at h ⊢; exact h
  | .pel .., cs, hn, h => by simp only [VR] at h ⊢; exact h
  | .map .., cs, hn, h => by simp only [VR] at h ⊢; exact h
  | .pval v, cs, hn, h => by simp [AV.noF] at hn
  | .nilP, cs, hn, h => by simpa only [VR] using h
  | .func _ a b, cs, hn, h => by
    simp only [AV.noF, Bool.and_eq_true] at hn
    simp only [VR] at h ⊢
    obtain ⟨xs, ys, e, h1, h2⟩ := h
    exact ⟨xs, ys, e, TVl_back a _ hn.1 h1, TVl_back b _ hn.2 h2⟩
  | .nilF, cs, hn, h => by simpa only [VR] using h
  | .iface t v, cs, hn, h => by
    simp only [AV.noF] at hn
    simp only [VR] at h ⊢
    obtain ⟨c, e, h⟩ := h
    exact ⟨c, e, h.imp (fun ⟨h1, xs, h2, h3⟩ => ⟨h1, xs, VR_back v xs hn h2, h3⟩) (fun ⟨h1, h2⟩ => ⟨h1, VR_back v _ hn h2⟩)⟩
  | .nilI, cs, hn, h => by simpa only [VR] using h
  | .tuple l, cs, hn, h => by
    simp only [VR] at h ⊢
    obtain ⟨xs, e, h⟩ := h
    exact ⟨xs, e, TVl_back l _ (by simpa only [AV.noF] using hn) h⟩
  | .nilM, cs, hn, h => by simpa only [VR] using h
theorem VRs_back {E1 : Emb} : ∀ (l : List AV) (cs : List Value), AV.noFs l = true → VRs E1 l cs → VRs (E.back E1 w) l cs
  | [], cs, hn, h => by simpa only [VRs] using h
  | v :: r, cs, hn, h => by
    simp only [AV.noFs, Bool.and_eq_true] at hn
    simp only [VRs] at h ⊢
    obtain ⟨c1, c2, e, h1, h2⟩ := h
    exact ⟨c1, c2, e, VR_back v c1 hn.1 h1, VRs_back r c2 hn.2 h2⟩
theorem TVl_back {E1 : Emb} : ∀ (l : List AV) (cs : List Value), AV.noFs l = true → TVl E1 l cs → TVl (E.back E1 w) l cs
  | [], cs, hn, h => by simpa only [TVl] using h
  | v :: r, cs, hn, h => by
    simp only [AV.noFs, Bool.and_eq_true] at hn
    simp only [TVl] at h ⊢
    obtain ⟨c, cr, e, h, hr⟩ := h
    exact ⟨c, cr, e, h.imp (fun ⟨h1, xs, h2, h3⟩ => ⟨h1, xs, VR_back v xs hn.1 h2, h3⟩) (fun ⟨h1, h2⟩ => ⟨h1, VR_back v _ hn.1 h2⟩), TVl_back r cr hn.2 hr⟩
end
theorem TV_back {E1 : Emb} {v : AV} {c : Value} (hn : v.noF = true) (h : TV E1 v c) : TV (E.back E1 w) v c :=
  h.imp (fun ⟨h1, xs, h2, h3⟩ => ⟨h1, xs, VR_back v xs hn h2, h3⟩) (fun ⟨h1, h2⟩ => ⟨h1, VR_back v _ hn h2⟩)
theorem noFs_get : ∀ {l : List AV} {j : Nat} {v : AV}, AV.noFs l = true → l[j]? = some v → v.noF = true
  | [], j, v, h, hj => by simp at hj
  | x :: r, 0, v, h, hj => by simp only [AV.noFs, Bool.and_eq_true] at h; simp at hj; subst hj; exact h.1
  | x :: r, j + 1, v, h, hj => by simp only [AV.noFs, Bool.and_eq_true] at h; exact noFs_get h.2 (by simpa using hj)

theorem back_le {E1 : Emb} (hR : Rep E A w) (hE : (E.all w).Le E1) : E.Le (E.back E1 w) :=
  ⟨hE.n, hE.loc, fun b o h => by
    have := (Array.getElem?_eq_some_iff.1 (hR.frm b o h)).1
    simp only [Emb.back, if_pos this]; exact h, rfl, fun _ _ h => h⟩
theorem back_rep {E1 : Emb} {B : Heap} {w' : World} (hR : Rep E A w) (hE : (E.all w).Le E1) (hR1 : Rep E1 B w') (hn : ∀ g c, B g = some c → c.noF = true) :
    Rep (E.back E1 w) (A.join B) w' ∧ ∀ g c, B g = some c → A g = none := by
  have keep : ∀ b, b < w.heap.size → w'.heap[b]? = w.heap[b]? := fun b hb => by
    rw [Array.getElem?_eq_getElem hb]
    exact hR1.frm b _ (hE.F b _ (by simp [Emb.all, Array.getElem?_eq_getElem hb]))
  have heldF : ∀ b, b < w.heap.size → E1.F b ≠ none := fun b hb => by
    rw [hE.F b w.heap[b] (by simp [Emb.all, Array.getElem?_eq_getElem hb])]; simp
  have hlo : E1.lo = E.N := hE.lo
  have hnew : ∀ g c, B g = some c → E.N ≤ g := fun g c hg => by rw [← hlo]; exact hR1.low g c hg
  have hdis : ∀ g c, B g = some c → A g = none := fun g c hg => by
    cases hA : A g with
    | none => rfl
    | some x => exact absurd (hR.lt g x hA) (Nat.not_lt.2 (hnew g c hg))
  have hle := back_le hR hE
  have bnew : ∀ g c, B g = some c → ∀ b off, (E1.loc g).addr = some (b, off) → ¬ b < w.heap.size := fun g c hg b off ha hb => heldF b hb (hR1.blk hg ha).2
  have hj : ∀ g c, (A.join B) g = some c → A g = some c ∨ (A g = none ∧ B g = some c) := fun g c hg => by
    simp only [Heap.join] at hg
    cases hA : A g with
    | none => rw [hA] at hg; exact .inr ⟨rfl, hg⟩
    | some x => rw [hA] at hg; injection hg with hg; subst hg; exact .inl rfl
  have locA : ∀ g c, A g = some c → E1.loc g = E.loc g := fun g c hg => hE.loc g (hR.lt g c hg)
  refine ⟨⟨fun b o hb => ?_, fun g c hg => ?_, fun g c hg => ?_, fun g1 g2 c1 c2 h1 h2 hne a1 a2 e1 e2 => ?_, fun g c hg => ?_, Nat.le_trans hR.lon hE.n, fun b o hb => ?_⟩, hdis⟩
  · simp only [Emb.back] at hb
    split at hb
    · rename_i hlt; rw [keep b hlt]; exact hR.frm b o hb
    · exact hR1.frm b o hb
  · rcases hj g c hg with h | ⟨_, h⟩
    · exact Nat.lt_of_lt_of_le (hR.lt g c h) hE.n
    · exact hR1.lt g c h
  · rcases hj g c hg with h | ⟨_, h⟩
    · refine RepC_mono hle (hR.lt g c h) (hR.cont g c h) (fun b off ha => ?_) (fun b off ha => keep b (hR.blk h ha).1)
      have := hR.blk h ha
      simp only [Emb.back, if_pos this.1]; exact this.2
    · have hc := hR1.cont g c h
      have hcn := hn g c h
      have hbF : ∀ b off, (E1.loc g).addr = some (b, off) → (E.back E1 w).F b = none := fun b off ha => by
        simp only [Emb.back, if_neg (bnew g c h b off ha)]; exact (hR1.blk h ha).2
      cases c with
      | var t l =>
        obtain ⟨b, cs, ha, hF, hb, hv⟩ := hc
        exact ⟨b, cs, ha, hbF _ _ ha, hb, VRs_back l cs hcn hv⟩
      | irow t k l =>
        obtain ⟨h1, h2, h3⟩ := hc
        exact ⟨h1, h2, h3.imp id fun ⟨b, off, C, ha, hF, hb, hx⟩ => ⟨b, off, C, ha, hbF _ _ ha, hb, hx⟩⟩
      | row t sz l =>
        obtain ⟨h1, h2, h3⟩ := hc
        refine ⟨h1, h2, h3.imp id fun ⟨b, off, C, ha, hF, hb, hx, hy⟩ => ⟨b, off, C, ha, hbF _ _ ha, hb, hx, fun j v hjv => ?_⟩⟩
        obtain ⟨cs, k1, k2, k3⟩ := hy j v hjv
        exact ⟨cs, k1, k2, VR_back v cs (noFs_get hcn hjv) k3⟩
      | mp k l =>
        obtain ⟨b, es, ck, ha, hF, hb, hk, hv⟩ := hc
        exact ⟨b, es, ck, ha, hbF _ _ ha, hb, hk, TVl_back _ _ hcn hv⟩
      | srow t k l =>
        obtain ⟨h1, b, C, m, ha, hF, hb, hx⟩ := hc
        exact ⟨h1, b, C, m, ha, hbF _ _ ha, hb, hx⟩
      | lp _ _ _ _ _ => cases hcn
  · simp only [Emb.back] at e1 e2
    rcases hj _ _ h1 with h1 | ⟨_, h1⟩ <;> rcases hj _ _ h2 with h2 | ⟨_, h2⟩
    · rw [locA _ _ h1] at e1; rw [locA _ _ h2] at e2
      exact hR.sep _ _ _ _ h1 h2 hne _ _ e1 e2
    · rw [locA _ _ h1] at e1
      have p := (hR.blk h1 (b := a1.1) (off := a1.2) e1).1
      have q := bnew _ _ h2 a2.1 a2.2 e2
      omega
    · rw [locA _ _ h2] at e2
      have p := (hR.blk h2 (b := a2.1) (off := a2.2) e2).1
      have q := bnew _ _ h1 a1.1 a1.2 e1
      omega
    · exact hR1.sep _ _ _ _ h1 h2 hne _ _ e1 e2
  · rcases hj g c hg with h | ⟨_, h⟩
    · exact hR.low g c h
    · exact Nat.le_trans hR.lon (hnew g c h)
  · have hx := hR.hid b o hb
    have hlt := (Array.getElem?_eq_some_iff.1 hx.1).1
    refine ⟨by rw [keep b hlt]; exact hx.1, by simp only [Emb.back, if_pos hlt]; exact hx.2.1, fun g c hg off e => ?_⟩
    rcases hj g c hg with h | ⟨_, h⟩
    · refine hx.2.2 g c h off ?_
      rw [← locA g c h]; exact e
    · exact bnew g c h b off e hlt

def AOut.noF : AOut → Bool
  | .ret v => v.noF
  | .pan v => v.noF
/-- Each argument is seen as another value. -/
inductive VwL (A : Heap) : List AV → List AV → Prop
  | nil : VwL A [] []
  | cons {v v' : AV} {l l' : List AV} : Vw A v v' → v.isAgg = v'.isAgg → VwL A l l' → VwL A (v :: l) (v' :: l')
theorem vwl_ok (hR : Rep E A w) : ∀ {l l' : List AV} {cs : List Value}, VwL A l l' → TVl E l cs → TVl (E.all w) l' cs
  | _, _, cs, .nil, h => by simpa only [TVl] using h
  | _, _, cs, .cons h1 hag h2, h => by
    simp only [TVl] at h ⊢
    obtain ⟨c, cr, e, h, hr⟩ := h
    exact ⟨c, cr, e, h.imp (fun ⟨k1, xs, k2, k3⟩ => ⟨by rw [← hag]; exact k1, xs, vw_ok hR h1 k2, k3⟩) (fun ⟨k1, k2⟩ => ⟨by rw [← hag]; exact k1, vw_ok hR h1 k2⟩), vwl_ok hR h2 hr⟩

/-- The rule: a call whose arguments are looked at alone. -/
theorem SimX.view {f : FuncId} {args args' : List AV} {K K' : AOut → Heap → Prop} (h : SimX P f args' (fun _ => none) K') (hv : VwL A args args')
    (hn : ∀ o B, K' o B → o.noF = true ∧ ∀ g c, B g = some c → c.noF = true) (hk : ∀ o B, K' o B → (∀ g c, B g = some c → A g = none) → K o (A.join B)) : SimX P f args A K := by
  intro E w cargs hR hT
  refine (h (E.all w) w cargs all_rep (vwl_ok hR hv hT)).mono ?_
  rintro e w' ⟨o, B, E1, hk', hR1, hE, hS, hO⟩
  obtain ⟨n1, n2⟩ := hn o B hk'
  obtain ⟨hr, hd⟩ := back_rep hR hE hR1 n2
  refine ⟨o, A.join B, E.back E1 w, hk o B hk' hd, hr, back_le hR hE, hS, ?_⟩
  cases o with
  | ret v => obtain ⟨c, rfl, hc⟩ := hO; exact ⟨c, rfl, TV_back n1 hc⟩
  | pan v => obtain ⟨c, rfl, hc⟩ := hO; exact ⟨c, rfl, TV_back n1 hc⟩
end
end AVL

/- A law's call, told by abstract values: the world that comes in is held whole. -/
namespace AVL
open Go Go.ChangeShapes Go.RowKit
set_option linter.unusedVariables false
set_option linter.unusedSimpArgs false

def E0 (w : World) : Emb := { loc := fun _ => ⟨none, 0, 0⟩, N := 0, F := fun b => w.heap[b]?, lo := 0 }
section
variable {P : Program} {w : World}
theorem E0_rep : Rep (E0 w) (fun _ => none) w :=
  ⟨fun _ _ h => h, fun _ _ h => (by cases h), fun _ _ h => (by cases h), fun _ _ _ _ h => (by cases h), fun _ _ h => (by cases h), Nat.le_refl _, fun _ _ h => (by cases h)⟩
/-- All that was there is as it was. -/
structure Bel (w w' : World) : Prop where
  os : w'.os = w.os
  output : w'.output = w.output
  size : w.heap.size ≤ w'.heap.size
  block : ∀ k, k < w.heap.size → w'.heap[k]? = w.heap[k]?
theorem Bel.frame {W W' : World} (h : Bel W W') (may : MemPlace → Prop) : W.keptBut W' may := by
  refine ⟨h.os, h.output, fun i hi => ?_⟩
  rw [h.block i hi]
  split <;> simp_all
theorem Bel.same {W W' : World} (h : Bel W W') {p : MemPlace} (hp : p.block < W.heap.size) : W.sameAt W' p := by
  cases p with
  | cell b o => exact World.cell?_of_block (w := W) (h.block b hp)
  | map b => exact h.block b hp
theorem Bel.trod {H : Type} {enc : TypeId × Value → H} {P : Program} {t : TypeId} (hl : laidOutB P = true) (hr : P.readableRec t = true) (hrow : t < P.types.size) {W W' : World} {v : Value} {d : DataW H} {ps : List MemPlace}
    (h : DataW.Trod enc P W 0 (fun _ => true) true t v d ps) (hb : Bel W W') (hlt : ∀ x ∈ ps, x.block < W.heap.size) :
    DataW.Trod enc P W' 0 (fun b => decide (b < W.heap.size)) true t v d ps :=
  WideElems.Trod_stays hl hr hrow h (fun x hx => hb.same (hlt x hx)) (fun x hx => by simpa using hlt x hx)
/-- What a law's walk has to show. -/
theorem law_ok {f : FuncId} {avs : List AV} {args : Array Value} (hT : TVl (E0 w) avs args.toList) (h : SimX P f avs (fun _ => none) (fun o _ => o = .ret (.bool true))) :
    Calls P f args w fun e w' => e = .returned (.bool true) ∧ Bel w w' := by
  refine (h (E0 w) w args E0_rep hT).mono ?_
  rintro e w' ⟨o, B, E', rfl, hR, hE, hS, hO⟩
  obtain ⟨c, rfl, hc⟩ := hO
  simp only [TV_bool] at hc
  subst hc
  refine ⟨rfl, hS.os, hS.output, hS.size, fun k hk => ?_⟩
  rw [Array.getElem?_eq_getElem hk]
  exact hR.frm k _ (hE.F k _ (by simp [E0, Array.getElem?_eq_getElem hk]))

/-- A slice of whole numbers that came in. -/
def RowIn (k : IntKind) (w : World) (a : Option Addr) (len cap : Nat) (zs : List Int) : Prop :=
  (a = none ∧ len = 0 ∧ cap = 0 ∧ zs = []) ∨
  ∃ x, a = some x ∧ len ≤ cap ∧ cap ≤ maxLen ∧ zs.length = cap ∧ (∀ i, i < zs.length → w.cell? (x.add i) = some (.int k (zs.getD i 0))) ∧ ∀ n ∈ zs, (Lit.int k n).wf = true
theorem row_in {k : IntKind} {a : Option Addr} {len cap : Nat} {zs : List Int} (h : RowIn k w a len cap zs) :
    TV (E0 w) (.isl k (zs.take len)) (.slice a len cap) ∧ (zs.take len).length ≤ maxLen ∧ (∀ n ∈ zs.take len, (Lit.int k n).wf = true) := by
  rcases h with ⟨rfl, rfl, rfl, rfl⟩ | ⟨x, rfl, h1, h2, h3, h4, h5⟩
  · refine ⟨.inr ⟨rfl, ?_⟩, by simp, by simp⟩
    simp only [VR]
    exact ⟨none, 0, by simp, by simp, fun h => by simp at h⟩
  · have hl : (zs.take len).length = len := by simp; omega
    refine ⟨.inr ⟨rfl, ?_⟩, by omega, fun n hn => h5 n (List.mem_of_mem_take hn)⟩
    simp only [VR]
    refine ⟨some x, cap, by rw [hl], by omega, fun hp => ?_⟩
    rw [hl] at hp
    obtain ⟨b, off, spot⟩ := x
    have hs : spot = none := by
      have := h4 0 (by omega)
      unfold World.cell? at this
      simp only [Addr.add, if_true] at this
      split at this
      · split at this
        · cases this
        · rename_i hs; cases spot <;> simp_all
      · cases this
    subst hs
    have key : ∀ i, i < zs.length → (E0 w).cell b (off + i) = some (.int k (zs.getD i 0)) := by
      intro i hi
      have := h4 i hi
      have hadd : (Addr.mk b off none).add i = pA b (off + i) := pA_add b off i
      rw [hadd] at this
      unfold World.cell? pA at this
      simp only [Emb.cell, E0]
      split at this
      · rename_i c _ _ hb
        simp only [hb]
        simpa using this
      · cases this
    refine ⟨b, off, rfl, fun j hj => ?_⟩
    rw [hl] at hj
    rw [key j (by omega)]
    simp [List.getElem?_take, hj]
end
end AVL

/- Arguments that come in: what is read of them by their types, as abstract values. -/
namespace AVL
open Go Go.ChangeShapes Go.RowKit
set_option linter.unusedVariables false
set_option linter.unusedSimpArgs false

inductive ATy where
  | int (k : IntKind)
  | bool
  | str
  | isl (k : IntKind)
  | dsl (sz : Nat) (e : ATy)
  | iarr (k : IntKind) (n : Nat)
  | agg (l : List ATy)
mutual
def ATy.has : ATy → AV → Prop
  | .int k, v => ∃ n, v = .int k n ∧ (Lit.int k n).wf = true
  | .bool, v => ∃ b, v = .bool b
  | .str, v => ∃ s : ByteArray, v = .str s ∧ s.size ≤ maxLen
  | .isl k, v => ∃ l, v = .isl k l ∧ l.length ≤ maxLen ∧ ∀ n ∈ l, (Lit.int k n).wf = true
  | .dsl sz e, v => ∃ l, v = .dsl sz l ∧ l.length ≤ maxLen ∧ ∀ x ∈ l, ATy.has e x
  | .iarr k n, v => ∃ l, v = .iarr k n l ∧ l.length = n ∧ ∀ n ∈ l, (Lit.int k n).wf = true
  | .agg ts, v => ∃ l, v = .agg l ∧ ATy.hasL ts l
def ATy.hasL : List ATy → List AV → Prop
  | [], vs => vs = []
  | t :: ts, vs => ∃ v r, vs = v :: r ∧ ATy.has t v ∧ ATy.hasL ts r
end
def ATy.flat : ATy → List ATy
  | .agg l => l
  | t => [t]
def ATy.isAgg : ATy → Bool
  | .agg _ | .iarr .. => true
  | _ => false
/-- The fields of a struct, one behind the other. -/
def fieldsTy (P : Program) (ty : TypeId → Option ATy) : List Field → Nat → Option (List ATy × Nat)
  | [], o => some ([], o)
  | f :: r, o => if f.offset = o then match ty f.type, fieldsTy P ty r (o + P.cellsOf f.type) with
      | some t, some (ts, e) => some (t.flat ++ ts, e)
      | _, _ => none
    else none
def rep (t : ATy) : Nat → List ATy
  | 0 => []
  | n + 1 => t.flat ++ rep t n
def tyOf (P : Program) : Nat → TypeId → Option ATy
  | 0, _ => none
  | n + 1, t => match P.underlying t with
    | some (.int k) => some (.int k)
    | some .bool => some .bool
    | some .string => some .str
    | some (.slice e) => match P.underlying e with
      | some (.int k) => if P.cellsOf e = 1 then some (.isl k) else none
      | _ => if 0 < P.cellsOf e then (tyOf P n e).map (ATy.dsl (P.cellsOf e)) else none
    | some (.struct fs) => match fieldsTy P (tyOf P n) fs.toList 0 with
      | some (ts, e) => if e = P.cellsOf t then some (.agg ts) else none
      | none => none
    | some (.array m e) => match P.underlying e with
      | some (.int k) => if P.cellsOf e = 1 ∧ P.cellsOf t = m then some (.iarr k m) else none
      | _ => if P.cellsOf t = m * P.cellsOf e then (tyOf P n e).map fun τ => .agg (rep τ m) else none
    | _ => none

theorem has_flat {t : ATy} {v : AV} (h : t.has v) : ATy.hasL t.flat (comps v) := by
  have h' := h
  cases t <;> simp only [ATy.has] at h'
  case agg l => obtain ⟨l', rfl, h'⟩ := h'; exact h'
  case bool => obtain ⟨b, rfl⟩ := h'; simp only [ATy.flat, comps, ATy.hasL]; exact ⟨_, _, rfl, h, rfl⟩
  all_goals
    obtain ⟨x, rfl, h'⟩ := h'
    simp only [ATy.flat, comps, ATy.hasL]
    exact ⟨_, _, rfl, h, rfl⟩
theorem hasL_append : ∀ {ts : List ATy} {us : List ATy} {vs ws : List AV}, ATy.hasL ts vs → ATy.hasL us ws → ATy.hasL (ts ++ us) (vs ++ ws)
  | [], us, vs, ws, h, h' => by simp only [ATy.hasL] at h; subst h; simpa using h'
  | t :: ts, us, vs, ws, h, h' => by
    simp only [ATy.hasL] at h
    obtain ⟨v, r, rfl, h1, h2⟩ := h
    simp only [List.cons_append, ATy.hasL]
    exact ⟨v, r ++ ws, rfl, h1, hasL_append h2 h'⟩

section
variable {H : Type} {enc : TypeId × Value → H} {P : Program} {w : World} {base : Nat} {spare : Nat → Bool} {held : Bool}
theorem mapM_cons_some {α β : Type} {f : α → Option β} {a : α} {l : List α} {ys : List β} (h : (a :: l).mapM f = some ys) : ∃ y r, ys = y :: r ∧ f a = some y ∧ l.mapM f = some r := by
  rw [List.mapM_cons] at h
  cases h1 : f a with
  | none => rw [h1] at h; cases h
  | some y =>
    rw [h1] at h
    cases h2 : l.mapM f with
    | none => rw [h2] at h; cases h
    | some r => rw [h2] at h; injection h with h; exact ⟨y, r, h.symm, rfl, rfl⟩
theorem mapM_get {α β : Type} {f : α → Option β} : ∀ {l : List α} {ys : List β}, l.mapM f = some ys → ∀ a ∈ l, ∃ y, f a = some y
  | [], _, _, a, ha => by cases ha
  | b :: l, ys, h, a, ha => by
    obtain ⟨y, r, rfl, h1, h2⟩ := mapM_cons_some h
    rcases List.mem_cons.1 ha with rfl | ha
    · exact ⟨y, h1⟩
    · exact mapM_get h2 a ha
/-- What one type is read as. -/
def ReadsT (P : Program) (w : World) (ty : TypeId → Option ATy) (r : TypeId → List Value → Option (DataW H × List MemPlace)) : Prop :=
  ∀ t cs x τ, r t cs = some x → ty t = some τ → ∃ v, VR (E0 w) v cs ∧ τ.has v

theorem fields_ok {ty : TypeId → Option ATy} {r : TypeId → List Value → Option (DataW H × List MemPlace)} (hr : ReadsT P w ty r) : ∀ (fs : List Field) (o : Nat) (cs : List Value) (xs : List (DataW H × List MemPlace)) (ts : List ATy) (e : Nat),
    fs.mapM (fun f => r f.type ((cs.drop f.offset).take (P.cellsOf f.type))) = some xs → fieldsTy P ty fs o = some (ts, e) → cs.length = e → ∃ vs, VRs (E0 w) vs (cs.drop o) ∧ ATy.hasL ts vs
  | [], o, cs, xs, ts, e, h, ht, hl => by
    simp only [fieldsTy] at ht; injection ht with ht; injection ht with h1 h2; subst h1; subst h2
    refine ⟨[], ?_, rfl⟩
    simp only [VRs]
    rw [List.drop_of_length_le (by omega)]
  | f :: fs, o, cs, xs, ts, e, h, ht, hl => by
    simp only [fieldsTy] at ht
    split at ht
    · rename_i ho
      split at ht
      · rename_i t ts' e' h1 h2
        injection ht with ht; injection ht with e1 e2; subst e1; subst e2
        obtain ⟨y, r', rfl, h3, h4⟩ := mapM_cons_some h
        obtain ⟨v, hv, hh⟩ := hr _ _ _ _ h3 h1
        obtain ⟨vs, hvs, hhs⟩ := fields_ok hr fs _ cs r' ts' e' h4 h2 hl
        rw [ho] at hv
        refine ⟨comps v ++ vs, ?_, hasL_append (has_flat hh) hhs⟩
        have := VRs_append _ _ _ _ (VR_comps hv) hvs
        rw [← List.drop_drop, List.take_append_drop] at this
        exact this
      · cases ht
    · cases ht
theorem chunks_ok {sz : Nat} {τ : ATy} : ∀ (m : Nat) (cs : List Value), cs.length = m * sz → (∀ i, i < m → ∃ v, VR (E0 w) v ((cs.drop (i * sz)).take sz) ∧ τ.has v) → ∃ vs, VRs (E0 w) vs cs ∧ ATy.hasL (rep τ m) vs
  | 0, cs, hl, _ => by
    have : cs = [] := List.eq_nil_of_length_eq_zero (by omega)
    exact ⟨[], by simp only [VRs]; exact this, rfl⟩
  | m + 1, cs, hl, h => by
    obtain ⟨v, hv, hh⟩ := h 0 (by omega)
    rw [Nat.zero_mul, List.drop_zero] at hv
    have hl2 : (cs.drop sz).length = m * sz := by rw [List.length_drop, hl, Nat.add_mul, Nat.one_mul]; omega
    obtain ⟨vs, hvs, hhs⟩ := chunks_ok m (cs.drop sz) hl2 fun i hi => by
      have := h (i + 1) (by omega)
      rw [List.drop_drop]
      rwa [Nat.add_mul, Nat.one_mul, Nat.add_comm] at this
    refine ⟨comps v ++ vs, ?_, hasL_append (has_flat hh) hhs⟩
    have := VRs_append _ _ _ _ (VR_comps hv) hvs
    rwa [List.take_append_drop] at this
theorem E0_cell {b o : Nat} {v : Value} (h : w.cell? (pA b o) = some v) : (E0 w).cell b o = some v := by
  unfold World.cell? pA at h
  simp only [Emb.cell, E0]
  split at h
  · rename_i c _ _ hb
    simp only [hb]
    simpa using h
  · cases h
theorem cell_spot {a : Addr} {v : Value} (h : w.cell? a = some v) : a.spot = none := by
  unfold World.cell? at h
  split at h
  · split at h
    · cases h
    · rename_i hs; cases hsp : a.spot <;> simp_all
  · cases h
theorem chain_ok {b off sz : Nat} {τ : ATy} {n : Nat} (h : ∀ i, i < n → ∃ cs v, cs.length = sz ∧ (∀ j, j < sz → (E0 w).cell b (off + i * sz + j) = cs[j]?) ∧ VR (E0 w) v cs ∧ τ.has v) : ∀ (k i : Nat), i + k = n → ∃ l, l.length = k ∧ (∀ x ∈ l, τ.has x) ∧ SR (E0 w) b sz (off + i * sz) l
  | 0, i, _ => ⟨[], rfl, by simp, by simp only [SR]⟩
  | k + 1, i, hi => by
    obtain ⟨l, h1, h2, h3⟩ := chain_ok h k (i + 1) (by omega)
    obtain ⟨cs, v, h4, h5, h6, h7⟩ := h i (by omega)
    refine ⟨v :: l, by simp [h1], ?_, ?_⟩
    · intro x hx
      rcases List.mem_cons.1 hx with rfl | hx
      · exact h7
      · exact h2 x hx
    · simp only [SR]
      refine ⟨⟨cs, h4, h5, h6⟩, ?_⟩
      rw [Nat.add_mul, Nat.one_mul, ← Nat.add_assoc] at h3
      exact h3
theorem row_cellsT {a : Addr} {sz len : Nat} {e : TypeId} {ty : ATy} {r : TypeId → List Value → Option (DataW H × List MemPlace)} {ys : List (DataW H × List MemPlace)} (hsz : 0 < sz) (hl : ys.length = len) (hlen : 0 < len)
    (hr : ∀ cs x, r e cs = some x → ∃ v, VR (E0 w) v cs ∧ ty.has v)
    (h : ∀ i, i < len → (w.cells? 0 (a.add (i * sz)) sz).bind (r e) = ys[i]?) :
    ∃ b off, a = pA b off ∧ ∀ i, i < len → ∃ cs v, cs.length = sz ∧ (∀ j, j < sz → (E0 w).cell b (off + i * sz + j) = cs[j]?) ∧ VR (E0 w) v cs ∧ ty.has v := by
  have get : ∀ i, i < len → ∃ cs y, w.cells? 0 (a.add (i * sz)) sz = some cs ∧ r e cs = some y := fun i hi => by
    have h1 := h i hi
    rw [List.getElem?_eq_getElem (by omega), Option.bind_eq_some_iff] at h1
    obtain ⟨cs, h2, h3⟩ := h1
    exact ⟨cs, _, h2, h3⟩
  have hs : a.spot = none := by
    obtain ⟨cs, y, h1, _⟩ := get 0 hlen
    obtain ⟨_, h2, h3⟩ := World.cells?_some h1
    have h4 := h3 0 hsz
    rw [List.getElem?_eq_getElem (by omega)] at h4
    have h5 := cell_spot h4
    simpa [Addr.add] using h5
  obtain ⟨b, off, sp⟩ := a
  simp only at hs; subst hs
  refine ⟨b, off, rfl, fun i hi => ?_⟩
  obtain ⟨cs, y, h1, h2⟩ := get i hi
  obtain ⟨_, h3, h4⟩ := World.cells?_some h1
  obtain ⟨v, h5, h6⟩ := hr _ _ h2
  refine ⟨cs, v, h3, fun j hj => ?_, h5, h6⟩
  have h7 := h4 j hj
  rw [show (Addr.mk b off none) = pA b off from rfl, pA_add, pA_add, List.getElem?_eq_getElem (by omega)] at h7
  rw [List.getElem?_eq_getElem (by omega)]
  exact E0_cell h7
theorem reads_ok : ∀ (n fuel : Nat), ReadsT P w (tyOf P n) (DataW.trod enc P w 0 (fun _ => true) held fuel)
  | 0, fuel, t, cs, x, τ, h, ht => by simp [tyOf] at ht
  | n + 1, fuel, t, cs, x, τ, h, ht => by
    unfold tyOf at ht
    split at ht
    · rename_i k hu
      injection ht with ht; subst ht
      obtain ⟨m, rfl, _, hw⟩ := DataW.trod_int hu h
      exact ⟨.int k m, by simp only [VR], by simp only [ATy.has]; exact ⟨m, rfl, hw⟩⟩
    · rename_i hu
      injection ht with ht; subst ht
      obtain ⟨b, rfl, _⟩ := DataW.trod_bool hu h
      exact ⟨.bool b, by simp only [VR], by simp only [ATy.has]; exact ⟨b, rfl⟩⟩
    · rename_i hu
      injection ht with ht; subst ht
      obtain ⟨s, rfl, _, hs⟩ := DataW.trod_string hu h
      exact ⟨.str s, by simp only [VR], by simp only [ATy.has]; exact ⟨s, rfl, hs⟩⟩
    · rename_i e hu
      split at ht
      · rename_i k he
        split at ht
        · rename_i h1
          injection ht with ht; subst ht
          rcases open_ints hu he h1 h with ⟨rfl, _⟩ | ⟨a, len, cap, zs, rfl, _, hl, hm, hz, _, hcell, hwz⟩
          · refine ⟨.isl k [], ?_, ?_⟩
            · simp only [VR]; exact ⟨none, 0, rfl, Nat.le_refl _, fun h => by simp at h⟩
            · simp only [ATy.has]; exact ⟨[], rfl, by simp, by simp⟩
          · obtain ⟨hT, hlen, hwf⟩ := row_in (k := k) (w := w) (a := some a) (len := len) (cap := cap) (zs := zs) (.inr ⟨a, rfl, hl, hm, by simpa using hz, hcell, hwz⟩)
            rcases hT with ⟨hx, _⟩ | ⟨_, hT⟩
            · cases hx
            · exact ⟨_, hT, by simp only [ATy.has]; exact ⟨_, rfl, hlen, hwf⟩⟩
        · cases ht
      · split at ht
        · rename_i hsz
          cases he : tyOf P n e with
          | none => rw [he] at ht; cases ht
          | some τe =>
            rw [he] at ht; injection ht with ht; subst ht
            rcases DataW.trod_slice hu h with ⟨rfl, _⟩ | ⟨a, len, cap, elems, rest, m, _, rfl, _, hb, hl, hm, hlen, hel, _, _⟩
            · refine ⟨.dsl (P.cellsOf e) [], ?_, ?_⟩
              · simp only [VR]; exact ⟨none, 0, rfl, Nat.le_refl _, fun h => by simp at h⟩
              · simp only [ATy.has]; exact ⟨[], rfl, by simp, by simp⟩
            · rcases Nat.eq_zero_or_pos len with h0 | hp
              · subst h0
                refine ⟨.dsl (P.cellsOf e) [], ?_, ?_⟩
                · simp only [VR]; exact ⟨some a, cap, rfl, Nat.zero_le _, fun h => by simp at h⟩
                · simp only [ATy.has]; exact ⟨[], rfl, by simp, by simp⟩
              · obtain ⟨b, off, rfl, hall⟩ := row_cellsT hsz hlen hp (fun cs x hx => reads_ok n m e cs x τe hx he) hel
                obtain ⟨l, h1, h2, h3⟩ := chain_ok hall len 0 (by omega)
                rw [Nat.zero_mul, Nat.add_zero] at h3
                refine ⟨.dsl (P.cellsOf e) l, ?_, ?_⟩
                · simp only [VR]; exact ⟨some (pA b off), cap, by rw [h1], by omega, fun _ => ⟨b, off, rfl, h3⟩⟩
                · simp only [ATy.has]; exact ⟨l, rfl, by omega, h2⟩
        · cases ht
    · rename_i fs hu
      split at ht
      · rename_i ts e hf
        split at ht
        · rename_i hee
          injection ht with ht; subst ht
          cases fuel with
          | zero => simp [DataW.trod] at h
          | succ m =>
            unfold DataW.trod at h
            rw [hu] at h
            simp only at h
            split at h
            · rename_i hlen
              cases hm : (fs.toList.mapM fun f => DataW.trod enc P w 0 (fun _ => true) held m f.type ((cs.drop f.offset).take (P.cellsOf f.type))) with
              | none => rw [hm] at h; cases h
              | some xs =>
                obtain ⟨vs, h1, h2⟩ := fields_ok (reads_ok n m) fs.toList 0 cs xs ts e hm hf (by omega)
                rw [List.drop_zero] at h1
                exact ⟨.agg vs, by unfold VR; exact h1, by simp only [ATy.has]; exact ⟨vs, rfl, h2⟩⟩
            · cases h
        · cases ht
      · cases ht
    · rename_i m e hu
      cases fuel with
      | zero => simp [DataW.trod] at h
      | succ fu =>
        unfold DataW.trod at h
        rw [hu] at h
        simp only at h
        split at h
        · rename_i hlen
          cases hm : ((List.range m).mapM fun i => DataW.trod enc P w 0 (fun _ => true) held fu e ((cs.drop (i * P.cellsOf e)).take (P.cellsOf e))) with
          | none => rw [hm] at h; cases h
          | some xs =>
            have each : ∀ i, i < m → ∃ y, DataW.trod enc P w 0 (fun _ => true) held fu e ((cs.drop (i * P.cellsOf e)).take (P.cellsOf e)) = some y := fun i hi => mapM_get hm i (by simp [hi])
            split at ht
            · rename_i k he
              split at ht
              · rename_i hc
                injection ht with ht; subst ht
                rw [hc.1] at each
                have each2 : ∀ i, i < m → ∃ z, cs[i]? = some (.int k z) ∧ (Lit.int k z).wf = true := fun i hi => by
                  obtain ⟨y, hy⟩ := each i hi
                  obtain ⟨z, h1, _, h2⟩ := DataW.trod_int he hy
                  refine ⟨z, ?_, h2⟩
                  have : ((cs.drop (i * 1)).take 1)[0]? = some (.int k z) := by rw [h1]; rfl
                  simpa [List.getElem?_take, List.getElem?_drop] using this
                obtain ⟨l, hl⟩ : ∃ l, l = cs.map fun v => match v with | .int _ n => n | _ => 0 := ⟨_, rfl⟩
                have hll : l.length = m := by rw [hl, List.length_map]; omega
                have lg : ∀ i z, i < m → cs[i]? = some (.int k z) → l[i]? = some z := fun i z hi hz => by rw [hl, List.getElem?_map, hz]; rfl
                refine ⟨.iarr k m l, ?_, ?_⟩
                · simp only [VR]
                  apply List.ext_getElem?
                  intro i
                  by_cases hi : i < m
                  · obtain ⟨z, hz, _⟩ := each2 i hi
                    rw [hz, List.getElem?_map, List.getElem?_range hi]
                    simp [List.getD_eq_getElem?_getD, lg i z hi hz]
                  · rw [List.getElem?_eq_none (by omega), List.getElem?_eq_none (by simp; omega)]
                · simp only [ATy.has]
                  refine ⟨l, rfl, hll, fun z hz => ?_⟩
                  obtain ⟨i, hi, he'⟩ := List.mem_iff_getElem.1 hz
                  obtain ⟨z', hz', hw⟩ := each2 i (by omega)
                  have := lg i z' (by omega) hz'
                  rw [List.getElem?_eq_getElem hi, he'] at this
                  injection this with this; subst this; exact hw
              · cases ht
            · split at ht
              · rename_i hc
                cases he : tyOf P n e with
                | none => rw [he] at ht; cases ht
                | some τe =>
                  rw [he] at ht; injection ht with ht; subst ht
                  obtain ⟨vs, h1, h2⟩ := chunks_ok (w := w) (sz := P.cellsOf e) (τ := τe) m cs (by omega) fun i hi => by
                    obtain ⟨y, hy⟩ := each i hi
                    exact reads_ok n fu e _ _ τe hy he
                  exact ⟨.agg vs, by unfold VR; exact h1, by simp only [ATy.has]; exact ⟨vs, rfl, h2⟩⟩
              · cases ht
        · cases h
    · cases ht
theorem has_isAgg {τ : ATy} {v : AV} (h : τ.has v) : v.isAgg = τ.isAgg := by
  cases τ <;> simp only [ATy.has] at h
  case bool => obtain ⟨b, rfl⟩ := h; rfl
  all_goals
    obtain ⟨x, rfl, _⟩ := h
    rfl
theorem cell_one {t : TypeId} {v : Value} (hn : ∀ cs, v ≠ .agg cs) : v.cells = #[v] := by
  cases v <;> first
    | rfl
    | exact absurd rfl (hn _)
theorem okWide_shape {n : Nat} {t : TypeId} {v : Value} {τ : ATy} {r : Reach} (h : Value.okWide P w r base t v) (ht : tyOf P n t = some τ) : (τ.isAgg = true ∧ ∃ cs, v = .agg cs) ∨ (τ.isAgg = false ∧ v.cells = #[v]) := by
  cases n with
  | zero => simp [tyOf] at ht
  | succ n =>
    unfold tyOf at ht
    split at ht
    · rename_i k hu
      injection ht with ht; subst ht
      refine .inr ⟨rfl, cell_one (t := t) fun cs e => ?_⟩
      subst e
      simp [Value.okWide, hu, Cell.okWide, Cell.ok] at h
    · rename_i hu
      injection ht with ht; subst ht
      refine .inr ⟨rfl, cell_one (t := t) fun cs e => ?_⟩
      subst e
      simp [Value.okWide, hu, Cell.okWide, Cell.ok] at h
    · rename_i hu
      injection ht with ht; subst ht
      refine .inr ⟨rfl, cell_one (t := t) fun cs e => ?_⟩
      subst e
      simp [Value.okWide, hu, Cell.okWide, Cell.ok] at h
    · rename_i e hu
      have hv : v.cells = #[v] := cell_one (t := t) fun cs e => by
        subst e
        simp [Value.okWide, hu, Cell.okWide, Cell.ok] at h
      split at ht
      · split at ht
        · injection ht with ht; subst ht; exact .inr ⟨rfl, hv⟩
        · cases ht
      · split at ht
        · cases he : tyOf P n e with
          | none => rw [he] at ht; cases ht
          | some τe => rw [he] at ht; injection ht with ht; subst ht; exact .inr ⟨rfl, hv⟩
        · cases ht
    · rename_i fs hu
      simp only [Value.okWide, hu] at h
      obtain ⟨cs, hv, _⟩ := h
      split at ht
      · split at ht
        · injection ht with ht; subst ht; exact .inl ⟨rfl, cs, hv⟩
        · cases ht
      · cases ht
    · rename_i m e hu
      simp only [Value.okWide, hu] at h
      obtain ⟨cs, hv, _⟩ := h
      split at ht
      · split at ht
        · injection ht with ht; subst ht; exact .inl ⟨rfl, cs, hv⟩
        · cases ht
      · split at ht
        · cases he : tyOf P n e with
          | none => rw [he] at ht; cases ht
          | some τe => rw [he] at ht; injection ht with ht; subst ht; exact .inl ⟨rfl, cs, hv⟩
        · cases ht
    · cases ht
theorem args_ok {n : Nat} {r : Reach} {b0 : Nat} : ∀ {ts : List TypeId} {vs : List Value} {ds : List (DataW H)} {ps : List MemPlace} {τs : List ATy}, DataW.TrodAll enc P w 0 (fun _ => true) held ts vs ds ps →
    (∀ (j : Nat) (t : TypeId) (v : Value), ts[j]? = some t → vs[j]? = some v → Value.okWide P w r b0 t v) → ts.mapM (tyOf P n) = some τs → ∃ avs, TVl (E0 w) avs vs ∧ ATy.hasL τs avs
  | [], vs, ds, ps, τs, h, _, ht => by
    obtain ⟨rfl, rfl, rfl⟩ := trodAll_nil h
    injection ht with ht; subst ht
    exact ⟨[], TVl_nil.2 rfl, rfl⟩
  | t :: ts, vs, ds, ps, τs, h, hv, ht => by
    obtain ⟨v, vs1, d, ds1, a, b, rfl, rfl, rfl, h1, h2⟩ := trodAll_cons h
    obtain ⟨τ, τr, rfl, h3, h4⟩ := mapM_cons_some ht
    obtain ⟨avs, h5, h6⟩ := args_ok h2 (fun j t' v' h7 h8 => hv (j + 1) t' v' (by simpa using h7) (by simpa using h8)) h4
    obtain ⟨fuel, hf⟩ := h1
    obtain ⟨av, h7, h8⟩ := reads_ok n fuel t _ _ τ hf h3
    refine ⟨av :: avs, TVl_cons.2 ⟨v, vs1, rfl, ?_, h5⟩, by simp only [ATy.hasL]; exact ⟨av, avs, rfl, h8, h6⟩⟩
    rcases okWide_shape (hv 0 t v rfl rfl) h3 with ⟨h9, cs, rfl⟩ | ⟨h9, hc⟩
    · refine .inl ⟨by rw [has_isAgg h8, h9], cs.toList, ?_, by simp⟩
      exact h7
    · refine .inr ⟨by rw [has_isAgg h8, h9], ?_⟩
      rw [hc] at h7
      exact h7
theorem all_below {W W' : World} (hl : laidOutB P = true) (bel : Bel W W') : ∀ {ts : List TypeId} {vs : List Value} {ds : List (DataW H)} {ps : List MemPlace}, (ts.all fun t => P.readableRec t && decide (t < P.types.size)) = true →
    DataW.TrodAll enc P W 0 (fun _ => true) true ts vs ds ps → DataW.TrodAll enc P W' 0 (fun b => decide (b < W.heap.size)) true ts vs ds ps
  | [], vs, ds, ps, _, h => by
    obtain ⟨rfl, rfl, rfl⟩ := trodAll_nil h
    exact trodAll_mk0
  | t :: ts, vs, ds, ps, hh, h => by
    obtain ⟨v, vs1, d, ds1, a, b, rfl, rfl, rfl, h1, h2⟩ := trodAll_cons h
    simp only [List.all_cons, Bool.and_eq_true, decide_eq_true_eq] at hh
    have hlt : ∀ x ∈ a, x.block < W.heap.size := by obtain ⟨m, hm⟩ := h1; exact DataW.trod_lt m _ _ _ hm
    exact trodAll_cons_mk (Bel.trod hl hh.1.1 hh.1.2 h1 bel hlt) (all_below hl bel hh.2 h2)
/-- A law's walk, of whatever arguments of these types. -/
theorem law_args {f : FuncId} {n : Nat} {r : Reach} {b0 : Nat} {ts : List TypeId} {args : Array Value} {ds : List (DataW H)} {ps : List MemPlace} {τs : List ATy} (hA : DataW.TrodAll enc P w 0 (fun _ => true) held ts args.toList ds ps)
    (hval : ∀ (j : Nat) (t : TypeId) (v : Value), ts.toArray[j]? = some t → args[j]? = some v → Value.okWide P w r b0 t v) (ht : ts.mapM (tyOf P n) = some τs)
    (h : ∀ avs, ATy.hasL τs avs → SimX P f avs (fun _ => none) (fun o _ => o = .ret (.bool true))) :
    Calls P f args w fun e w' => e = .returned (.bool true) ∧ Bel w w' := by
  obtain ⟨avs, h1, h2⟩ := args_ok (n := n) (τs := τs) hA (fun j t v h1 h2 => hval j t v (by simpa using h1) (by simpa using h2)) ht
  exact law_ok h1 (h avs h2)
end
end AVL

/- The walk of abstract code, step by step, in terms that simp can take. -/
namespace AVL
open Go
set_option linter.unusedVariables false

inductive Kt where
  | done
  | thn (c : ACode) (k : Kt)
  | blk (id : Nat) (k : Kt)
def Kt.post (P : Program) (R : APost) : Kt → APost
  | .done => R
  | .thn c k => AEx.then (aw P c (k.post P R)) (k.post P R)
  | .blk id k => AEx.inBlock id (k.post P R)
def X (P : Program) (R : APost) (c : ACode) (k : Kt) (env : AEnv) (A : Heap) : Prop := aw P c (k.post P R) env A
def XE (P : Program) (R : APost) (e : AEx) (k : Kt) (env : AEnv) (A : Heap) : Prop := k.post P R e env A
def XO (P : Program) (R : APost) (r : List AOper) (k : Kt) (env : AEnv) (A : Heap) : Prop := awOps P r (k.post P R .normal) (fun v => k.post P R (.pan v)) env A
def XD (P : Program) (R : APost) (r : List DOp) (k : Kt) (env : AEnv) (A : Heap) : Prop := awD P r (k.post P R .normal) (fun v A => ∀ env' : AEnv, k.post P R (.pan v) env' A) env A
def KQ (P : Program) (R : APost) (k : Kt) (v : AV) (A : Heap) : Prop := ∀ env' : AEnv, XE P R (.pan v) k env' A
def flipA (K : AV → Heap → Prop) (A : Heap) (v : AV) : Prop := K v A
def kF (_ : AV) (_ : Heap) : Prop := False
def KV (P : Program) (R : APost) (d : Option Nat) (r : List AOper) (k : Kt) (env : AEnv) (v : AV) (A : Heap) : Prop := XO P R r k (put env d v) A
def KP (P : Program) (R : APost) (k : Kt) (env : AEnv) (v : AV) (A : Heap) : Prop := XE P R (.pan v) k env A
def KF (P : Program) (R : APost) (d : Option Nat) (r : List DOp) (k : Kt) (env : AEnv) (A : Heap) (v : AV) : Prop := XD P R r k (put env d v) A
def KD (P : Program) (R : APost) (st : Bool) (ks : Option (List Nat)) (A0 : Heap) (d : Option Nat) (r : List DOp) (k : Kt) (env : AEnv) (v : AV) (A : Heap) : Prop := (st = true → keepC ks env A0 A) ∧ XD P R r k (put env d v) A
def condK (P : Program) (R : APost) (c : AV) (x y : ACode) (k : Kt) (env : AEnv) (A : Heap) : Prop := match c with
  | .bool b => (b = true → X P R x k env A) ∧ (b = false → X P R y k env A)
  | _ => False
def guardO (P : Program) (R : APost) (c : AV) (want : Bool) (s : Nat) (d : Option Nat) (o : AOp) (r : List AOper) (k : Kt) (env : AEnv) (A : Heap) : Prop := match c with
  | .bool b => (b = want → aop P o (upd env s (.bool want)) A (KV P R d r k (upd env s (.bool want))) (KP P R k (upd env s (.bool want)))) ∧ (b = !want → XO P R r k (put (upd env s (.bool !want)) d .undef) A)
  | .undef => XO P R r k (put env d .undef) A
  | _ => False
def guardF (P : Program) (R : APost) (c : AV) (want : Bool) (d : Option Nat) (o : AOp) (r : List DOp) (k : Kt) (env : AEnv) (A : Heap) : Prop := match c with
  | .bool b => (b = want → fl P o env A (KF P R d r k env A)) ∧ (b = !want → XD P R r k (put env d .undef) A)
  | .undef => XD P R r k (put env d .undef) A
  | _ => False
def guardC (P : Program) (R : APost) (c : AV) (want : Bool) (st : Bool) (ks : Option (List Nat)) (d : Option Nat) (o : AOp) (r : List DOp) (k : Kt) (env : AEnv) (A : Heap) : Prop := match c with
  | .bool b => (b = want → aop P o env A (KD P R st ks A d r k env) (KQ P R k)) ∧ (b = !want → (st = true → keepC ks env A A) ∧ XD P R r k (put env d .undef) A)
  | .undef => (st = true → keepC ks env A A) ∧ XD P R r k (put env d .undef) A
  | _ => False
def callK (P : Program) (f : FuncId) (vs : Option (List AV)) (A : Heap) (K Kp : AV → Heap → Prop) : Prop := match vs with
  | some vs => SimX P f vs A (outK K Kp)
  | none => False

section
variable {P : Program} {R : APost} {k : Kt} {env : AEnv} {A : Heap} {K Kp : AV → Heap → Prop}
/-! code -/
@[simp] theorem X_skip : X P R .skip k env A = XE P R .normal k env A := rfl
@[simp] theorem X_seq {a b : ACode} : X P R (.seq a b) k env A = X P R a (.thn b k) env A := rfl
@[simp] theorem X_region {r : List AOper} : X P R (.region r) k env A = XO P R r k env A := rfl
def XA (P : Program) (R : APost) (r : List (AOper × List Nat)) (k : Kt) (env : AEnv) (A : Heap) : Prop := awA P r (k.post P R .normal) (fun v A => ∀ env' : AEnv, k.post P R (.pan v) env' A) env A
@[simp] theorem X_regionA {r : List (AOper × List Nat)} : X P R (.regionA r) k env A = XA P R r k env A := rfl
/-- In whatever order: what holds after some of the operations. -/
theorem XA_any {r : List (AOper × List Nat)} (I : (Nat → Bool) → AEnv → Heap → Prop) (h0 : I (fun _ => false) env A)
    (hs : ∀ l env A, I l env A → ∀ i p, r[i]? = some p → l i = false → (∀ j ∈ p.2, l j = true) → gC P p.1 env A (fun v A' => I (setL l i) (put env p.1.dst v) A') (KQ P R k))
    (he : ∀ l env A, I l env A → (∀ i < r.length, l i = true) → XE P R .normal k env A) : XA P R r k env A := ⟨I, h0, hs, he⟩
@[simp] theorem X_regionD {r : List DOp} : X P R (.regionD r) k env A = XD P R r k env A := rfl
@[simp] theorem X_cond {c : AO} {x y : ACode} : X P R (.cond c x y) k env A = condK P R (ev env c) x y k env A := rfl
@[simp] theorem X_block {id : Nat} {c : ACode} : X P R (.block id c) k env A = X P R c (.blk id k) env A := rfl
@[simp] theorem X_exit {id : Nat} : X P R (.exit id) k env A = XE P R (.exit id) k env A := rfl
@[simp] theorem X_ret : X P R .ret k env A = XE P R .ret k env A := rfl
@[simp] theorem condK_true {x y : ACode} : condK P R (.bool true) x y k env A = X P R x k env A := by simp [condK]
@[simp] theorem condK_false {x y : ACode} : condK P R (.bool false) x y k env A = X P R y k env A := by simp [condK]
@[simp] theorem condK_dec {p : Prop} [Decidable p] {x y : ACode} : condK P R (.bool (decide p)) x y k env A = ((p → X P R x k env A) ∧ (¬p → X P R y k env A)) := by simp [condK]
@[simp] theorem condK_not {b : Bool} {x y : ACode} : condK P R (.bool (!b)) x y k env A = condK P R (.bool b) y x k env A := by cases b <;> simp [condK]
@[simp] theorem XE_thn {c : ACode} : XE P R .normal (.thn c k) env A = X P R c k env A := rfl
@[simp] theorem XE_thn_exit {id : Nat} {c : ACode} : XE P R (.exit id) (.thn c k) env A = XE P R (.exit id) k env A := rfl
@[simp] theorem XE_thn_ret {c : ACode} : XE P R .ret (.thn c k) env A = XE P R .ret k env A := rfl
@[simp] theorem XE_thn_pan {v : AV} {c : ACode} : XE P R (.pan v) (.thn c k) env A = XE P R (.pan v) k env A := rfl
@[simp] theorem XE_blk {id : Nat} : XE P R .normal (.blk id k) env A = XE P R .normal k env A := rfl
@[simp] theorem XE_blk_exit {id id' : Nat} : XE P R (.exit id') (.blk id k) env A = if id' = id then XE P R .normal k env A else XE P R (.exit id') k env A := rfl
@[simp] theorem XE_blk_ret {id : Nat} : XE P R .ret (.blk id k) env A = XE P R .ret k env A := rfl
@[simp] theorem XE_blk_pan {id : Nat} {v : AV} : XE P R (.pan v) (.blk id k) env A = XE P R (.pan v) k env A := rfl
@[simp] theorem XE_done {e : AEx} : XE P R e .done env A = R e env A := rfl
/-! a range over a function -/
def rfM (P : Program) (R : APost) (g : Nat) (k : Kt) (env : AEnv) (B : Heap) : Option Cont → Prop
  | some (.lp _ _ _ _ .ready) => XE P R .normal k env (B.del g)
  | some (.lp _ _ _ _ (.done .ret)) => XE P R .ret k env (B.del g)
  | some (.lp _ _ _ _ (.done (.exit id))) => XE P R (.exit id) k env (B.del g)
  | _ => False
def rfV (P : Program) (R : APost) (g : Nat) (k : Kt) (env : AEnv) (_ : AV) (B : Heap) : Prop := rfM P R g k env B (B g)
def rfP (P : Program) (R : APost) (k : Kt) (env : AEnv) (v : AV) (B : Heap) : Prop := XE P R (.pan v) k env B
def rfG (P : Program) (R : APost) (f : AV) (n : Nat) (ps : List Nat) (asg body : Code) (k : Kt) (env : AEnv) (A : Heap) : Prop := match f with
  | .func (.func fk) first cap => callable P fk = true ∧ ∀ g, A g = none → SimX P fk (first ++ [.func (.yield g) [] []] ++ cap) (A.set g (.lp ((List.range n).map env) ps asg body .ready)) (outK (rfV P R g k env) (rfP P R k env))
  | _ => False
@[simp] theorem X_rangeF {n : Nat} {f : AO} {ps : List Nat} {asg body : Code} : X P R (.rangeF n f ps asg body) k env A = rfG P R (ev env f) n ps asg body k env A := by
  unfold X rfG
  simp only [aw]
  generalize ev env f = fv
  split
  · simp only
    refine propext ⟨fun h => ⟨h.1, fun g hg => (h.2 g hg).mono fun o B ho => ?_⟩, fun h => ⟨h.1, fun g hg => (h.2 g hg).mono fun o B ho => ?_⟩⟩
    · cases o with
      | ret v =>
        simp only [outK, rfV] at ho ⊢
        generalize B g = c at ho ⊢
        split at ho <;> first | exact ho | exact ho.elim
      | pan v => exact ho
    · cases o with
      | ret v =>
        simp only [outK, rfV] at ho ⊢
        generalize B g = c at ho ⊢
        unfold rfM at ho
        split at ho <;> first | exact ho | exact ho.elim
      | pan v => exact ho
  · rename_i hne
    split
    · exact absurd rfl (hne _ _ _)
    · rfl
@[simp] theorem rfG_func {fk : FuncId} {first cap : List AV} {n : Nat} {ps : List Nat} {asg body : Code} : rfG P R (.func (.func fk) first cap) n ps asg body k env A =
    (callable P fk = true ∧ ∀ g, A g = none → SimX P fk (first ++ [.func (.yield g) [] []] ++ cap) (A.set g (.lp ((List.range n).map env) ps asg body .ready)) (outK (rfV P R g k env) (rfP P R k env))) := rfl
@[simp] theorem rfV_eq {g : Nat} {v : AV} {B : Heap} : rfV P R g k env v B = rfM P R g k env B (B g) := rfl
@[simp] theorem rfM_ready {g : Nat} {B : Heap} {en : List AV} {ps : List Nat} {asg body : Code} : rfM P R g k env B (some (.lp en ps asg body .ready)) = XE P R .normal k env (B.del g) := rfl
@[simp] theorem rfM_ret {g : Nat} {B : Heap} {en : List AV} {ps : List Nat} {asg body : Code} : rfM P R g k env B (some (.lp en ps asg body (.done .ret))) = XE P R .ret k env (B.del g) := rfl
@[simp] theorem rfM_exit {g id : Nat} {B : Heap} {en : List AV} {ps : List Nat} {asg body : Code} : rfM P R g k env B (some (.lp en ps asg body (.done (.exit id)))) = XE P R (.exit id) k env (B.del g) := rfl
@[simp] theorem rfP_eq {v : AV} {B : Heap} : rfP P R k env v B = XE P R (.pan v) k env B := rfl
/-- What a round's temporaries are at its start. -/
def roundEnv (en : List AV) (ps : List Nat) (vs : List AV) : AEnv := (ps.zip vs).foldl (fun e p => upd e p.1 p.2) fun i => en.getD i .undef
def rdB (g : Nat) (en : List AV) (ps : List Nat) (asg body : Code) (K : AV → Heap → Prop) : APost := fun e _ B => B g = some (.lp en ps asg body .busy) ∧ match e with
  | .normal => K (.bool true) (B.set g (.lp en ps asg body .ready))
  | .ret => K (.bool false) (B.set g (.lp en ps asg body (.done .ret)))
  | .exit id => K (.bool false) (B.set g (.lp en ps asg body (.done (.exit id))))
  | .pan _ => False
def rdA (P : Program) (g : Nat) (en : List AV) (ps : List Nat) (asg body : Code) (bA : ACode) (K : AV → Heap → Prop) : APost := fun e env B => match e with
  | .normal => B g = some (.lp en ps asg body .ready) ∧ X P (rdB g en ps asg body K) bA .done env (B.set g (.lp en ps asg body .busy))
  | _ => False
/-! regions -/
@[simp] theorem XO_nil : XO P R [] k env A = XE P R .normal k env A := rfl
@[simp] theorem XO_cons {d : Option Nat} {o : AOp} {r : List AOper} : XO P R (⟨d, o, none⟩ :: r) k env A = aop P o env A (KV P R d r k env) (KP P R k env) := rfl
@[simp] theorem XO_guard {d : Option Nat} {o : AOp} {s : Nat} {want : Bool} {r : List AOper} : XO P R (⟨d, o, some (s, want)⟩ :: r) k env A = guardO P R (env s) want s d o r k env A := rfl
@[simp] theorem guardO_tt {d : Option Nat} {o : AOp} {s : Nat} {r : List AOper} : guardO P R (.bool true) true s d o r k env A = aop P o (upd env s (.bool true)) A (KV P R d r k (upd env s (.bool true))) (KP P R k (upd env s (.bool true))) := by simp [guardO]
@[simp] theorem guardO_ff {d : Option Nat} {o : AOp} {s : Nat} {r : List AOper} : guardO P R (.bool false) false s d o r k env A = aop P o (upd env s (.bool false)) A (KV P R d r k (upd env s (.bool false))) (KP P R k (upd env s (.bool false))) := by simp [guardO]
@[simp] theorem guardO_tf {d : Option Nat} {o : AOp} {s : Nat} {r : List AOper} : guardO P R (.bool true) false s d o r k env A = XO P R r k (put (upd env s (.bool true)) d .undef) A := by simp [guardO]
@[simp] theorem guardO_ft {d : Option Nat} {o : AOp} {s : Nat} {r : List AOper} : guardO P R (.bool false) true s d o r k env A = XO P R r k (put (upd env s (.bool false)) d .undef) A := by simp [guardO]
@[simp] theorem guardO_un {want : Bool} {d : Option Nat} {o : AOp} {s : Nat} {r : List AOper} : guardO P R .undef want s d o r k env A = XO P R r k (put env d .undef) A := rfl
@[simp] theorem guardF_un {want : Bool} {d : Option Nat} {o : AOp} {r : List DOp} : guardF P R .undef want d o r k env A = XD P R r k (put env d .undef) A := rfl
@[simp] theorem XD_nil : XD P R [] k env A = XE P R .normal k env A := rfl
@[simp] theorem XD_fl {d : Option Nat} {o : AOp} {st : Bool} {ks : Option (List Nat)} {ls : List Nat} {r : List DOp} : XD P R (⟨⟨d, o, none⟩, true, st, ks, ls⟩ :: r) k env A = fl P o env A (KF P R d r k env A) := rfl
theorem lsOK_nil : ∀ (l : List DOp) (env : AEnv), lsOK [] l env
  | [], _ => trivial
  | p :: r, env => ⟨fun h => by cases hd : p.o.dst <;> simp [hd, hasD] at h, lsOK_nil r env⟩
/-- What a maker that may run early needs. -/
def mayL (o : AOp) (env : AEnv) : Prop := (mkL o env).isSome = true
@[simp] theorem lsOK_nil' {ls : List Nat} : lsOK ls [] env = True := rfl
@[simp] theorem lsOK_none {ls : List Nat} {o : AOp} {g : Option (Nat × Bool)} {fl st : Bool} {ks : Option (List Nat)} {l' : List Nat} {r : List DOp} : lsOK ls (⟨⟨none, o, g⟩, fl, st, ks, l'⟩ :: r) env = lsOK ls r env := by simp [lsOK, hasD]
@[simp] theorem lsOK_some {ls : List Nat} {t : Nat} {o : AOp} {g : Option (Nat × Bool)} {fl st : Bool} {ks : Option (List Nat)} {l' : List Nat} {r : List DOp} : lsOK ls (⟨⟨some t, o, g⟩, fl, st, ks, l'⟩ :: r) env = ((ls.contains t = true → o.late = true → mayL o env) ∧ lsOK ls r env) := by
  simp only [lsOK, mayL, hasD]
@[simp] theorem mayL_alloc {t : TypeId} {z : List AV} : mayL (.alloc t z) env = True := by simp [mayL, mkL]
@[simp] theorem mayL_box {t : TypeId} {sh : Sh} {x : AO} : mayL (.box t sh x) env = (good (ev env x) = true ∧ (shp sh (comps (ev env x))).isSome = true) := by
  simp only [mayL, mkL]; split <;> simp_all
@[simp] theorem mayL_bslI {e : TypeId} {ki : IntKind} {xs : List AO} : mayL (.bslI e ki xs) env = (((fillAll env .sc 1 xs).bind (intsOf ki)).isSome = true) := by
  cases h : fillAll env .sc 1 xs <;> simp [mayL, mkL, h]
@[simp] theorem mayL_bsl {e : TypeId} {sh : Sh} {sz : Nat} {xs : List AO} : mayL (.bsl e sh sz xs) env = ((fillAll env sh sz xs).isSome = true) := by
  simp [mayL, mkL]
@[simp] theorem mayL_mkM {k : IntKind} : mayL (.xx (.mkM k) []) env = True := by simp [mayL, mkL]
attribute [simp] AOp.late
@[simp] theorem XD_chL {d : Option Nat} {o : AOp} {st : Bool} {ks : Option (List Nat)} {t : Nat} {ls : List Nat} {r : List DOp} : XD P R (⟨⟨d, o, none⟩, false, st, ks, t :: ls⟩ :: r) k env A = (lsOK (t :: ls) r env ∧ aop P o env A (KD P R st ks A d r k env) (KQ P R k)) := rfl
@[simp] theorem XD_chGL {d : Option Nat} {o : AOp} {st : Bool} {ks : Option (List Nat)} {t : Nat} {ls : List Nat} {s : Nat} {want : Bool} {r : List DOp} : XD P R (⟨⟨d, o, some (s, want)⟩, false, st, ks, t :: ls⟩ :: r) k env A = (lsOK (t :: ls) r env ∧ guardC P R (env s) want st ks d o r k env A) := rfl
@[simp] theorem XD_ch {d : Option Nat} {o : AOp} {st : Bool} {ks : Option (List Nat)} {r : List DOp} : XD P R (⟨⟨d, o, none⟩, false, st, ks, []⟩ :: r) k env A = aop P o env A (KD P R st ks A d r k env) (KQ P R k) := propext ⟨fun h => h.2, fun h => ⟨lsOK_nil _ _, h⟩⟩
@[simp] theorem XD_flG {d : Option Nat} {o : AOp} {st : Bool} {ks : Option (List Nat)} {ls : List Nat} {s : Nat} {want : Bool} {r : List DOp} : XD P R (⟨⟨d, o, some (s, want)⟩, true, st, ks, ls⟩ :: r) k env A = guardF P R (env s) want d o r k env A := rfl
@[simp] theorem XD_chG {d : Option Nat} {o : AOp} {st : Bool} {ks : Option (List Nat)} {s : Nat} {want : Bool} {r : List DOp} : XD P R (⟨⟨d, o, some (s, want)⟩, false, st, ks, []⟩ :: r) k env A = guardC P R (env s) want st ks d o r k env A := propext ⟨fun h => h.2, fun h => ⟨lsOK_nil _ _, h⟩⟩
@[simp] theorem guardF_tt {d : Option Nat} {o : AOp} {r : List DOp} : guardF P R (.bool true) true d o r k env A = fl P o env A (KF P R d r k env A) := by simp [guardF]
@[simp] theorem guardF_ff {d : Option Nat} {o : AOp} {r : List DOp} : guardF P R (.bool false) false d o r k env A = fl P o env A (KF P R d r k env A) := by simp [guardF]
@[simp] theorem guardF_tf {d : Option Nat} {o : AOp} {r : List DOp} : guardF P R (.bool true) false d o r k env A = XD P R r k (put env d .undef) A := by simp [guardF]
@[simp] theorem guardF_ft {d : Option Nat} {o : AOp} {r : List DOp} : guardF P R (.bool false) true d o r k env A = XD P R r k (put env d .undef) A := by simp [guardF]
theorem Sub_refl (A : Heap) : A.Sub A := fun _ _ h => h
@[simp] theorem guardC_tt {d : Option Nat} {o : AOp} {st : Bool} {ks : Option (List Nat)} {r : List DOp} : guardC P R (.bool true) true st ks d o r k env A = aop P o env A (KD P R st ks A d r k env) (KQ P R k) := by simp [guardC]
@[simp] theorem guardC_ff {d : Option Nat} {o : AOp} {st : Bool} {ks : Option (List Nat)} {r : List DOp} : guardC P R (.bool false) false st ks d o r k env A = aop P o env A (KD P R st ks A d r k env) (KQ P R k) := by simp [guardC]
@[simp] theorem guardC_tf {d : Option Nat} {o : AOp} {st : Bool} {ks : Option (List Nat)} {r : List DOp} : guardC P R (.bool true) false st ks d o r k env A = XD P R r k (put env d .undef) A := by simp [guardC, keepC, Sub_refl]
@[simp] theorem guardC_ft {d : Option Nat} {o : AOp} {st : Bool} {ks : Option (List Nat)} {r : List DOp} : guardC P R (.bool false) true st ks d o r k env A = XD P R r k (put env d .undef) A := by simp [guardC, keepC, Sub_refl]
@[simp] theorem guardC_un {want : Bool} {d : Option Nat} {o : AOp} {st : Bool} {ks : Option (List Nat)} {r : List DOp} : guardC P R .undef want st ks d o r k env A = XD P R r k (put env d .undef) A := by simp [guardC, keepC, Sub_refl]
@[simp] theorem KV_eq {d : Option Nat} {r : List AOper} {v : AV} : KV P R d r k env v A = XO P R r k (put env d v) A := rfl
@[simp] theorem KP_eq {v : AV} : KP P R k env v A = XE P R (.pan v) k env A := rfl
@[simp] theorem KF_eq {d : Option Nat} {r : List DOp} {v : AV} : KF P R d r k env A v = XD P R r k (put env d v) A := rfl
@[simp] theorem KD_f {A0 : Heap} {ks : Option (List Nat)} {d : Option Nat} {r : List DOp} {v : AV} : KD P R false ks A0 d r k env v A = XD P R r k (put env d v) A := by simp [KD]
@[simp] theorem KD_t {A0 : Heap} {ks : Option (List Nat)} {d : Option Nat} {r : List DOp} {v : AV} : KD P R true ks A0 d r k env v A = (keepC ks env A0 A ∧ XD P R r k (put env d v) A) := by simp [KD]
@[simp] theorem keepC_none {A A' : Heap} : keepC none env A A' = A.Sub A' := by simp [keepC]
@[simp] theorem keepC_some {l : List Nat} {A A' : Heap} : keepC (some l) env A A' = (A.Sub A' ∨ keepL l env A A') := rfl
@[simp] theorem keepL_nil {A A' : Heap} : keepL [] env A A' = True := rfl
@[simp] theorem keepL_cons {t : Nat} {l : List Nat} {A A' : Heap} : keepL (t :: l) env A A' = (keep1 (env t) A A' ∧ keepL l env A A') := rfl
@[simp] theorem keep1_ptr {g o : Nat} {A A' : Heap} : keep1 (.ptr g o) A A' = (A' g = A g) := rfl
@[simp] theorem keep1_pix {g o m i : Nat} {A A' : Heap} : keep1 (.pix g o m i) A A' = (A' g = A g) := rfl
@[simp] theorem keep1_pel {g i o : Nat} {A A' : Heap} : keep1 (.pel g i o) A A' = (A' g = A g) := rfl
@[simp] theorem keep1_own {g i n : Nat} {A A' : Heap} : keep1 (.own g i n) A A' = (A' g = A g) := rfl
@[simp] theorem keep1_asl {g o m i n : Nat} {A A' : Heap} : keep1 (.asl g o m i n) A A' = (A' g = A g) := rfl
@[simp] theorem keep1_isl {ki : IntKind} {l : List Int} {A A' : Heap} : keep1 (.isl ki l) A A' = True := rfl
@[simp] theorem keep1_dsl {sz : Nat} {l : List AV} {A A' : Heap} : keep1 (.dsl sz l) A A' = True := rfl
@[simp] theorem keep1_nil {A A' : Heap} : keep1 .nilS A A' = True := rfl
@[simp] theorem keep1_pval {v : AV} {A A' : Heap} : keep1 (.pval v) A A' = True := rfl
@[simp] theorem flipA_eq {v : AV} : flipA K A v = K v A := rfl
@[simp] theorem KQ_eq {v : AV} : KQ P R k v A = ∀ env' : AEnv, XE P R (.pan v) k env' A := rfl
@[simp] theorem kF_eq {v : AV} : kF v A = False := rfl
@[simp] theorem outK_ret {v : AV} : outK K Kp (.ret v) A = K v A := rfl
@[simp] theorem outK_pan {v : AV} : outK K Kp (.pan v) A = Kp v A := rfl
@[simp] theorem callK_some {f : FuncId} {vs : List AV} : callK P f (some vs) A K Kp = SimX P f vs A (outK K Kp) := rfl
@[simp] theorem put_some {d : Nat} {v : AV} : put env (some d) v = upd env d v := rfl
@[simp] theorem put_none {v : AV} : put env none v = env := rfl
@[simp] theorem upd_eq {n : Nat} {v : AV} : upd env n v n = v := by simp [upd]
@[simp] theorem upd_app {n m : Nat} {v : AV} : upd env n v m = if m = n then v else env m := rfl
@[simp] theorem upd_twice {n : Nat} {v u : AV} : upd (upd env n v) n u = upd env n u := by funext x; simp only [upd]; split <;> rfl
@[simp] theorem ev_t {n : Nat} : ev env (.t n) = env n := rfl
@[simp] theorem ev_v {v : AV} : ev env (.v v) = v := rfl
@[simp] theorem evo_n : evo env none = none := rfl
@[simp] theorem evo_s {x : AO} : evo env (some x) = some (ev env x) := rfl
theorem set_app {g x : Nat} {c : Cont} : A.set g c x = if x = g then some c else A x := rfl
theorem del_app {g x : Nat} : A.del g x = if x = g then none else A x := rfl
@[simp] theorem set_eq' {g : Nat} {c : Cont} : A.set g c g = some c := Heap.set_same _ _ _
@[simp] theorem set_ne' {g x : Nat} {c : Cont} (h : x ≠ g) : A.set g c x = A x := Heap.set_ne _ _ h
@[simp] theorem set_none {g x : Nat} {c : Cont} : (A.set g c x = none) = (x ≠ g ∧ g ≠ x ∧ A x = none) := by
  simp only [set_app]
  by_cases h : x = g
  · simp [h]
  · simp [h, Ne.symm h]
@[simp] theorem del_set_eq {g : Nat} {c : Cont} : (A.set g c).del g = A.del g := by
  funext x; simp only [set_app, del_app]; split <;> simp_all
@[simp] theorem del_set_ne {g x : Nat} {c : Cont} (h : x ≠ g) : (A.set x c).del g = (A.del g).set x c := by
  funext y; simp only [set_app, del_app]; split <;> split <;> simp_all
@[simp] theorem set_set {g : Nat} {c c' : Cont} : (A.set g c).set g c' = A.set g c' := by
  funext x; simp only [set_app]; split <;> rfl
@[simp] theorem env0_app {l : List AV} {n : Nat} : env0 l n = l.getD n .undef := rfl
/-! operations -/
@[simp] theorem a_mv {x : AO} : aop P (.mv x) env A K Kp = K (ev env x) A := rfl
@[simp] theorem a_pick {c x y : AO} : aop P (.pick c x y) env A K Kp = apick (ev env c) (ev env x) (ev env y) (flipA K A) := rfl
@[simp] theorem a_alloc {t : TypeId} {z : List AV} : aop P (.alloc t z) env A K Kp = ∀ g, A g = none → K (.ptr g 0) (A.set g (.var t z)) := rfl
@[simp] theorem a_box {t : TypeId} {sh : Sh} {x : AO} : aop P (.box t sh x) env A K Kp = (good (ev env x) = true ∧ abox t sh (ev env x) A K) := rfl
@[simp] theorem a_build {sh : Sh} {z : List AV} {ps : List (Nat × Nat × AO)} : aop P (.build sh z ps) env A K Kp = abuild sh z ps env A K := rfl
@[simp] theorem a_bslI {e : TypeId} {ki : IntKind} {xs : List AO} : aop P (.bslI e ki xs) env A K Kp = abslI e ki xs env A K := rfl
@[simp] theorem a_bsl {e : TypeId} {sh : Sh} {sz : Nat} {xs : List AO} : aop P (.bsl e sh sz xs) env A K Kp = absl e sh sz xs env A K := rfl
@[simp] theorem a_load {sh : Sh} {sz : Nat} {p : AO} : aop P (.load sh sz p) env A K Kp = aload sh sz (ev env p) A K := rfl
@[simp] theorem a_store {sh : Sh} {sz : Nat} {p x : AO} : aop P (.store sh sz p x) env A K Kp = (good (ev env x) = true ∧ astore sh sz (ev env p) (ev env x) A K) := rfl
@[simp] theorem a_bin {op : BinOp} {x y : AO} : aop P (.bin op x y) env A K Kp = abin op (ev env x) (ev env y) (flipA K A) := rfl
@[simp] theorem a_eq {et : ET} {neg : Bool} {x y : AO} : aop P (.eq et neg x y) env A K Kp = aeq et neg (ev env x) (ev env y) (flipA K A) := rfl
@[simp] theorem a_un {op : UnOp} {x : AO} : aop P (.un op x) env A K Kp = aun op (ev env x) (flipA K A) := rfl
@[simp] theorem a_conv {ki : IntKind} {x : AO} : aop P (.conv ki x) env A K Kp = aconv ki (ev env x) (flipA K A) := rfl
@[simp] theorem a_fadr {off sz : Nat} {sh : Sh} {x : AO} : aop P (.fadr off sz sh x) env A K Kp = afadr off sz sh (ev env x) A K := rfl
@[simp] theorem a_field {off sz : Nat} {sh : Sh} {x : AO} : aop P (.field off sz sh x) env A K Kp = afield off sz sh (ev env x) A K := rfl
def idxK (P : Program) (sz : Nat) (x : AV) (i : AV) (A : Heap) (K Kp : AV → Heap → Prop) : Prop := aint i fun n => aidxP P sz x n A K Kp
def idxAK (m sz : Nat) (ints : Bool) (x : AV) (i : AV) (A : Heap) (K : AV → Heap → Prop) : Prop := aint i fun n => aidxA m sz ints x n A K
@[simp] theorem a_idx {sz : Nat} {x i : AO} : aop P (.idx sz x i) env A K Kp = idxK P sz (ev env x) (ev env i) A K Kp := rfl
@[simp] theorem idxK_int {sz : Nat} {x : AV} {ki : IntKind} {n : Int} : idxK P sz x (.int ki n) A K Kp = aidxP P sz x n A K Kp := rfl
@[simp] theorem aidxP_isl {sz : Nat} {k : IntKind} {l : List Int} {n : Int} : aidxP P sz (.isl k l) n A K Kp = aidx sz (.isl k l) n A K := rfl
@[simp] theorem aidxP_dsl {sz s : Nat} {l : List AV} {n : Int} : aidxP P sz (.dsl s l) n A K Kp = aidx sz (.dsl s l) n A K := rfl
@[simp] theorem aidxP_own {sz g i m : Nat} {n : Int} : aidxP P sz (.own g i m) n A K Kp = aidx sz (.own g i m) n A K := rfl
@[simp] theorem aidxP_asl {sz g o m i l : Nat} {n : Int} : aidxP P sz (.asl g o m i l) n A K Kp = aidx sz (.asl g o m i l) n A K := rfl
@[simp] theorem aidxP_nil {sz : Nat} {n : Int} : aidxP P sz .nilS n A K Kp = ∀ s : Bool, Kp (.iface P.rt.boundsError (.agg [.int .i64 (IntKind.i64.wrap n), .int .i64 0, .bool s, .int .u8 0])) A := rfl
@[simp] theorem a_idxA {m sz : Nat} {ints : Bool} {x i : AO} : aop P (.idxA m sz ints x i) env A K Kp = idxAK m sz ints (ev env x) (ev env i) A K := rfl
@[simp] theorem idxAK_int {m sz : Nat} {ints : Bool} {x : AV} {ki : IntKind} {n : Int} : idxAK m sz ints x (.int ki n) A K = aidxA m sz ints x n A K := rfl
@[simp] theorem a_slc {sz : Nat} {x : AO} {lo hi : Option AO} : aop P (.slc sz x lo hi) env A K Kp = (szOK sz (ev env x) A ∧ aslc (ev env x) (evo env lo) (evo env hi) A K) := rfl
@[simp] theorem a_slcA {m : Nat} {x : AO} {lo hi : Option AO} : aop P (.slcA m x lo hi) env A K Kp = aslcA m (ev env x) (evo env lo) (evo env hi) A K := rfl
@[simp] theorem a_s2a {m : Nat} {x : AO} : aop P (.s2a m x) env A K Kp = as2a m (ev env x) A K := rfl
@[simp] theorem a_mkI {e : TypeId} {ki : IntKind} {b : Nat} {l c : AO} : aop P (.mkI e ki b l c) env A K Kp = amkI e ki b (ev env l) (ev env c) A K := rfl
@[simp] theorem a_mk {e : TypeId} {sz b : Nat} {z : AV} {l c : AO} : aop P (.mk e sz b z l c) env A K Kp = amk e sz b z (ev env l) (ev env c) A K := rfl
@[simp] theorem a_ext {i : Nat} {x : AO} : aop P (.ext i x) env A K Kp = aext i (ev env x) (flipA K A) := rfl
@[simp] theorem a_len {s : Bool} {x : AO} : aop P (.len s x) env A K Kp = alen s (ev env x) (flipA K A) := rfl
@[simp] theorem a_appI {e : TypeId} {ki : IntKind} {b : Nat} {d s : AO} : aop P (.appI e ki b d s) env A K Kp = aappI e ki b (ev env d) (ev env s) A K := rfl
@[simp] theorem a_app {e : TypeId} {sz b : Nat} {d s : AO} : aop P (.app e sz b d s) env A K Kp = aapp e sz b (ev env d) (ev env s) A K := rfl
@[simp] theorem a_call {f : FuncId} {args : List (Sh × AO)} : aop P (.call f args) env A K Kp = callK P f (nrms env args) A K Kp := by
  simp only [aop, callK]
  cases nrms env args with
  | none => rfl
  | some vs => exact congrArg (SimX P f vs A) (by funext o A'; cases o <;> rfl)
def callVK (P : Program) (f : AV) (vs : Option (List AV)) (A : Heap) (K Kp : AV → Heap → Prop) : Prop := match f, vs with
  | .func (.func f) first cap, some vs => callable P f = true ∧ SimX P f (first ++ vs ++ cap) A (outK K Kp)
  | .func (.yield g) [] [], some vs => (∃ en ps asg body, A g = some (.lp en ps asg body .ready)) ∧ SimR P g vs A (outK K Kp)
  | _, _ => False
@[simp] theorem callVK_yield {g : Nat} {vs : List AV} : callVK P (.func (.yield g) [] []) (some vs) A K Kp = ((∃ en ps asg body, A g = some (.lp en ps asg body .ready)) ∧ SimR P g vs A (outK K Kp)) := rfl
@[simp] theorem callVK_func {f : FuncId} {first cap vs : List AV} : callVK P (.func (.func f) first cap) (some vs) A K Kp = (callable P f = true ∧ SimX P f (first ++ vs ++ cap) A (outK K Kp)) := rfl
@[simp] theorem a_callV {x : AO} {args : List (Sh × AO)} : aop P (.callV x args) env A K Kp = callVK P (ev env x) (nrms env args) A K Kp := rfl
def pncK (x : AV) (A : Heap) (Kp : AV → Heap → Prop) : Prop := match x with
  | .iface t v => Kp (.iface t v) A
  | _ => False
@[simp] theorem pncK_ifc {t : TypeId} {v : AV} : pncK (.iface t v) A Kp = Kp (.iface t v) A := rfl
@[simp] theorem a_pnc {x : AO} : aop P (.pnc x) env A K Kp = pncK (ev env x) A Kp := rfl
@[simp] theorem a_xx {o : XOp} {xs : List AO} : aop P (.xx o xs) env A K Kp = xop o (xs.map (ev env)) A K := rfl
def flK (F : AV → Prop) (v : AV) (_ : Heap) : Prop := F v
@[simp] theorem flK_eq {F : AV → Prop} {v : AV} : flK F v A = F v := rfl
@[simp] theorem fl_aop {o : AOp} {F : AV → Prop} : fl P o env A F = aop P o env A (flK F) kF := rfl
/-! values -/
@[simp] theorem apick_b {b : Bool} {x y : AV} {F : AV → Prop} : apick (.bool b) x y F = F (if b then x else y) := rfl
@[simp] theorem abin_ii {op : BinOp} {ki ki' : IntKind} {a b : Int} {F : AV → Prop} : abin op (.int ki a) (.int ki' b) F = abinI op ki a ki' b F := rfl
@[simp] theorem abin_ss {op : BinOp} {a b : ByteArray} {F : AV → Prop} : abin op (.str a) (.str b) F = abinS op a b F := rfl
attribute [simp] abinI abinS aun aconv alen aext aload astore abox afadr afield aidx aidxA aslc aslcA as2a bnd szOK amkI amk abuild foldP abslI absl fillAll intsOf intsQ aappI aapp aappZ aclr srcI srcG xop nrms nrm pop nilOf aeq eqV eqF aress outOf AV.isAgg comps shp getC setC takeC dropC getI setI good AV.st AV.sts AV.sizes AV.size AV.isSl

/-! a guard that is not known: both ways (not for simp at large) -/
theorem guardO_dec {p : Prop} [Decidable p] {d : Option Nat} {o : AOp} {s : Nat} {r : List AOper} : guardO P R (.bool (decide p)) true s d o r k env A =
    ((p → aop P o (upd env s (.bool true)) A (KV P R d r k (upd env s (.bool true))) (KP P R k (upd env s (.bool true)))) ∧ (¬p → XO P R r k (put (upd env s (.bool false)) d .undef) A)) := by simp [guardO]
theorem guardO_decF {p : Prop} [Decidable p] {d : Option Nat} {o : AOp} {s : Nat} {r : List AOper} : guardO P R (.bool (decide p)) false s d o r k env A =
    ((¬p → aop P o (upd env s (.bool false)) A (KV P R d r k (upd env s (.bool false))) (KP P R k (upd env s (.bool false)))) ∧ (p → XO P R r k (put (upd env s (.bool true)) d .undef) A)) := by simp [guardO]
theorem guardF_dec {p : Prop} [Decidable p] {d : Option Nat} {o : AOp} {r : List DOp} : guardF P R (.bool (decide p)) true d o r k env A =
    ((p → fl P o env A (KF P R d r k env A)) ∧ (¬p → XD P R r k (put env d .undef) A)) := by simp [guardF]
theorem guardF_decF {p : Prop} [Decidable p] {d : Option Nat} {o : AOp} {r : List DOp} : guardF P R (.bool (decide p)) false d o r k env A =
    ((¬p → fl P o env A (KF P R d r k env A)) ∧ (p → XD P R r k (put env d .undef) A)) := by simp [guardF]
theorem guardC_dec {p : Prop} [Decidable p] {st : Bool} {ks : Option (List Nat)} {d : Option Nat} {o : AOp} {r : List DOp} : guardC P R (.bool (decide p)) true st ks d o r k env A =
    ((p → aop P o env A (KD P R st ks A d r k env) (KQ P R k)) ∧ (¬p → XD P R r k (put env d .undef) A)) := by simp [guardC, keepC, Sub_refl]
theorem guardC_decF {p : Prop} [Decidable p] {st : Bool} {ks : Option (List Nat)} {d : Option Nat} {o : AOp} {r : List DOp} : guardC P R (.bool (decide p)) false st ks d o r k env A =
    ((¬p → aop P o env A (KD P R st ks A d r k env) (KQ P R k)) ∧ (p → XD P R r k (put env d .undef) A)) := by simp [guardC, keepC, Sub_refl]
theorem SimD.mono {f : FuncId} {args : List AV} {K K' : AOut → Heap → Prop} (h : SimD P f args A K) (hk : ∀ o A', K o A' → K' o A') : SimD P f args A K' :=
  fun E w cargs u hR ha => (h E w cargs u hR ha).mono fun _ _ _ ⟨e, o, A', E', k, r⟩ => ⟨e, o, A', E', hk _ _ k, r⟩
theorem X_introD {f : FuncId} {fn : Func} {af : AFunc} {args : List AV} {Ko : AOut → Heap → Prop} (hf : P.funcs[f]? = some fn) (ht : trF P fn = some af) (hn : args.length ≤ fn.ntmps) (hrf : AVL.Func.hasRF fn = false)
    (h : ∀ R : APost, (∀ e env A, fpost af.res Ko e env A → R e env A) → X P R af.body .done (env0 args) A) : SimD P f args A Ko := simD_of2 _ hf ht hn (fun _ _ _ h => h) (h _ (fun _ _ _ h => h)) hrf
@[simp] theorem inl_ret {res : List ARes} : inl res K Kp .ret env A = aress env A res fun vs => K (outOf vs) A := rfl
@[simp] theorem inl_normal {res : List ARes} : inl res K Kp .normal env A = aress env A res fun vs => K (outOf vs) A := rfl
@[simp] theorem inl_pan {res : List ARes} {v : AV} : inl res K Kp (.pan v) env A = Kp v A := rfl
theorem X_inl {f : FuncId} {fn : Func} {af : AFunc} {args : List AV} (hf : P.funcs[f]? = some fn) (ht : trF P fn = some af) (hn : args.length ≤ fn.ntmps)
    (h : X P (inl af.res K Kp) af.body .done (env0 args) A) : SimX P f args A (outK K Kp) := inl_of hf ht hn h
theorem X_intro {f : FuncId} {fn : Func} {af : AFunc} {args : List AV} {Ko : AOut → Heap → Prop} (hf : P.funcs[f]? = some fn) (ht : trF P fn = some af) (hn : args.length ≤ fn.ntmps)
    (h : ∀ R : APost, (∀ e env A, fpost af.res Ko e env A → R e env A) → X P R af.body .done (env0 args) A) : SimX P f args A Ko :=
  sim_of hf ht hn (h _ fun _ _ _ h => h)
/-- A loop: a state S, what holds at the start of each round (of a part of the heap), a measure. -/
theorem X_loopS {c : ACode} {S : Type} (I : S → AEnv → Heap → Prop) (μ : S → Nat) (s : S) (B0 : Heap) (hB : B0.Sub A) (h0 : I s env B0)
    (h : ∀ (R' : APost) (s : S) (env : AEnv) (B : Heap), I s env B → (∀ s' env' A' B', Heap.Sub B' A' → I s' env' B' → μ s' < μ s → R' .normal env' A') → (∀ e env' A', e ≠ .normal → XE P R e k env' A' → R' e env' A') → X P R' c .done env B) :
    X P R (.loop c) k env A := by
  refine ⟨S, I, μ, s, ⟨B0, hB, h0⟩, fun s env A hI => ?_⟩
  refine h _ s env A hI (fun s' env' A' B' hS h1 h2 => ⟨s', B', hS, h1, h2⟩) (fun e env' A' hne hx => ?_)
  cases e with
  | normal => exact absurd rfl hne
  | exit _ => exact hx
  | ret => exact hx
  | pan _ => exact hx
theorem X_loop {c : ACode} {S : Type} (I : S → AEnv → Heap → Prop) (μ : S → Nat) (s : S) (h0 : I s env A)
    (h : ∀ (R' : APost) (s : S) (env : AEnv) (A : Heap), I s env A → (∀ s' env' A', I s' env' A' → μ s' < μ s → R' .normal env' A') → (∀ e env' A', e ≠ .normal → XE P R e k env' A' → R' e env' A') → X P R' c .done env A) :
    X P R (.loop c) k env A :=
  X_loopS I μ s A (Sub_refl A) h0 fun R' s env B hI hN hE => h R' s env B hI (fun s' env' A' h1 h2 => hN s' env' A' A' (Sub_refl A') h1 h2) hE
/-- What a round of a loop is to end in. -/
def lp (P : Program) (R : APost) (k : Kt) {S : Type} (I : S → AEnv → Heap → Prop) (μ : S → Nat) (s : S) : APost := AEx.then (fun env' A' => ∃ s' B', Heap.Sub B' A' ∧ I s' env' B' ∧ μ s' < μ s) (k.post P R)
section
variable {S : Type} {I : S → AEnv → Heap → Prop} {μ : S → Nat} {s : S}
@[simp] theorem lp_exit {id : Nat} : lp P R k I μ s (.exit id) env A = XE P R (.exit id) k env A := rfl
@[simp] theorem lp_ret : lp P R k I μ s .ret env A = XE P R .ret k env A := rfl
@[simp] theorem lp_pan {v : AV} : lp P R k I μ s (.pan v) env A = XE P R (.pan v) k env A := rfl
theorem lp_next (s' : S) (h : I s' env A) (hm : μ s' < μ s) : lp P R k I μ s .normal env A := ⟨s', A, Sub_refl A, h, hm⟩
theorem lp_nextS (s' : S) (B : Heap) (hB : B.Sub A) (h : I s' env B) (hm : μ s' < μ s) : lp P R k I μ s .normal env A := ⟨s', B, hB, h, hm⟩
end
theorem X_lpS {c : ACode} {S : Type} (I : S → AEnv → Heap → Prop) (μ : S → Nat) (s : S) (B0 : Heap) (hB : B0.Sub A) (h0 : I s env B0)
    (h : ∀ (s : S) (env : AEnv) (B : Heap), I s env B → X P (lp P R k I μ s) c .done env B) : X P R (.loop c) k env A :=
  ⟨S, I, μ, s, ⟨B0, hB, h0⟩, fun s env A hI => h s env A hI⟩
theorem X_lp {c : ACode} {S : Type} (I : S → AEnv → Heap → Prop) (μ : S → Nat) (s : S) (h0 : I s env A)
    (h : ∀ (s : S) (env : AEnv) (B : Heap), I s env B → X P (lp P R k I μ s) c .done env B) : X P R (.loop c) k env A :=
  X_lpS I μ s A (Sub_refl A) h0 h
/-! a round -/
theorem roundEnv_ok {E : Emb} {n : Nat} : ∀ (ps : List Nat) (vs : List AV) (cs : List Value) (env : AEnv) (tm : Array Value) (ds : List Deferred), (∀ t ∈ ps, t < n) → tm.size = n → TVl E vs cs → EnvR E env { tmps := tm, defers := ds } →
    EnvR E ((ps.zip vs).foldl (fun e p => upd e p.1 p.2) env) { tmps := (ps.zip cs).foldl (fun tmps (p : Nat × Value) => tmps.setIfInBounds p.1 p.2) tm, defers := ds } ∧ ((ps.zip cs).foldl (fun tmps (p : Nat × Value) => tmps.setIfInBounds p.1 p.2) tm).size = n
  | [], vs, cs, env, tm, ds, _, hs, _, he => by simpa using ⟨he, hs⟩
  | t :: ps, [], cs, env, tm, ds, _, hs, hT, he => by rw [TVl_nil] at hT; subst hT; simpa using ⟨he, hs⟩
  | t :: ps, v :: vs, cs, env, tm, ds, hp, hs, hT, he => by
    obtain ⟨c, cr, rfl, hc, hr⟩ := TVl_cons.1 hT
    simp only [List.zip_cons_cons, List.foldl_cons]
    refine roundEnv_ok ps vs cr _ _ ds (fun t ht => hp t (by simp [ht])) (by simpa using hs) hr ?_
    exact EnvR.put he hc (by rw [hs]; exact hp t (by simp))
theorem zip_fold (ps : Array Nat) (cs : Array Value) (tm : Array Value) : (ps.zip cs).foldl (fun tmps (t, a) => tmps.setIfInBounds t a) tm = (ps.toList.zip cs.toList).foldl (fun tmps (p : Nat × Value) => tmps.setIfInBounds p.1 p.2) tm := by
  rw [← Array.foldl_toList, Array.toList_zip]
theorem X_round {g n : Nat} {en vs : List AV} {ps : List Nat} {asg body : Code} {aA bA : ACode} (hA : A g = some (.lp en ps asg body .ready)) (ha : trC P n asg = some aA) (hb : trC P n body = some bA) (hn : en.length = n) (hps : ∀ t ∈ ps, t < n) (hv : vs.length = ps.length)
    (ra : hasRF asg = false) (rb : hasRF body = false) (h : X P (rdA P g en ps asg body bA K) aA .done (roundEnv en ps vs) A) : SimR P g vs A (outK K Kp) := by
  intro E w cargs l r hR hT hl hr
  obtain ⟨b, r', h1, hF, h2, hen, hp, has, hbo, hst, hpe⟩ := hR.cont g _ hA
  rw [hl] at h1; injection h1 with h1; injection h1 with h1 _; subst h1
  rw [hr] at h2; injection h2 with h2; injection h2 with h2; subst h2
  have hlen : ∀ {l : List AV} {cs : List Value}, TVl E l cs → l.length = cs.length := by
    intro l
    induction l with
    | nil => intro cs h; rw [TVl_nil] at h; subst h; rfl
    | cons v r ih =>
      intro cs h
      obtain ⟨c, cr, rfl, _, hr⟩ := TVl_cons.1 h
      simp [ih hr]
  have hsz : cargs.size = r.params.size := by
    have e1 := hlen hT
    have e2 : r.params.size = ps.length := by rw [← hp]; simp
    simp at e1; omega
  have htm : r.tmps.size = n := by have := hlen hen; simp at this; omega
  refine ⟨hsz, ?_⟩
  rw [has, hbo, zip_fold, hp]
  have he0 : EnvR E (fun i => en.getD i .undef) { tmps := r.tmps, defers := [] } := fun i => by
    by_cases hi : i < en.length
    · obtain ⟨c, hc, hv⟩ := TVl_get hen (List.getElem?_eq_getElem hi)
      have e1 : en.getD i .undef = en[i] := by simp [List.getD_eq_getElem?_getD, hi]
      have e2 : r.tmps.getD i undef = c := by
        rw [Array.getD_eq_getD_getElem?]
        have : r.tmps[i]? = some c := by simpa using hc
        rw [this]; rfl
      simp only [e1, e2]; exact hv
    · have e1 : en.getD i .undef = .undef := by simp [List.getD_eq_getElem?_getD, List.getElem?_eq_none (Nat.le_of_not_lt hi)]
      have e2 : r.tmps.getD i undef = undef := by
        rw [Array.getD_eq_getD_getElem?, Array.getElem?_eq_none (by omega)]; rfl
      simp only [e1, e2]
      exact TV_undef _ _ rfl
  obtain ⟨he, hs⟩ := roundEnv_ok ps vs cargs.toList _ r.tmps [] hps htm hT he0
  refine roundIn_of_wpIn trivial ?_
  refine wpIn_mono (F := Fr (some l)) (aw_ok (ro := some l) asg aA ha (fun _ => ra) _ _ A h [] E _ w hR he hs rfl) ?_
  rintro e a1 w1 ⟨ae, env1, B, E1, ms, hk, hx, hR1, he1, hE1, hS1, ha1, hd1, hM1, hm1⟩
  cases ae with
  | exit id => exact hk.elim
  | ret => exact hk.elim
  | pan v => exact hk.elim
  | normal =>
    cases hx
    obtain ⟨hB, hk⟩ := hk
    obtain ⟨b, r1, k1, k2, k3, k4, k5, k6, k7, k8, k9⟩ := hR1.cont g _ hB
    have hl1 : (E1.loc g).addr = some (l, 0) := by rw [hE1.loc g (hR.lt g _ hA)]; exact hl
    rw [hl1] at k1; injection k1 with k1; injection k1 with k1 _; subst k1
    refine ⟨_, run_beginRound k3 k8, ?_⟩
    have hR2 : Rep E1 (B.set g (.lp en ps asg body .busy)) (w1.putObj l (.loop { r1 with state := .busy })) :=
      hR1.change hB hl1 (fun x hx => World.putObj_heap_other hx) ⟨l, _, hl1, k2, World.putObj_heap_same (Array.getElem?_eq_some_iff.1 k3).1, k4, k5, k6, k7, rfl, k9⟩
    have hS2 : Same w1 (w1.putObj l (.loop { r1 with state := .busy })) := ⟨rfl, rfl, by simp⟩
    refine wpIn_mono (F := Fr (some l)) (aw_ok (ro := some l) body bA hb (fun _ => rb) _ _ _ hk _ E1 _ _ hR2 he1 ha1 rfl) ?_
    rintro e a3 w3 ⟨ae, env3, C, E3, ms3, ⟨hC, hk⟩, hx, hR3, he3, hE3, hS3, ha3, hd3, hM3, hm3⟩
    have hl3 : (E3.loc g).addr = some (l, 0) := by rw [hE3.loc g (hR1.lt g _ hB)]; exact hl1
    obtain ⟨b, r3, q1, q2, q3, q4, q5, q6, q7, q8, q9⟩ := hR3.cont g _ hC
    rw [hl3] at q1; injection q1 with q1; injection q1 with q1 _; subst q1
    have fin : ∀ (s : LSt) (j : Option Code), s.st = (if j.isNone then .ready else .done) → s.pend = j → K (.bool j.isNone) (C.set g (.lp en ps asg body s)) →
        ∃ v w', (Instr.endRound l j).run P w3 = .ok v w' ∧ ∃ o A' E', outK K Kp o A' ∧ Rep E' A' w' ∧ E.Le E' ∧ Same w w' ∧ OutR E' o (.returned v) := by
      intro s j hs1 hs2 hk
      refine ⟨_, _, run_endRound j q3, .ret (.bool j.isNone), _, E3, hk, hR3.change hC hl3 (fun x hx => World.putObj_heap_other hx) ⟨l, _, hl3, q2, World.putObj_heap_same (Array.getElem?_eq_some_iff.1 q3).1, q4, q5, q6, q7, hs1.symm, hs2.symm⟩, hE1.trans hE3, ((hS1.trans hS2).trans hS3).trans ⟨rfl, rfl, by simp⟩, _, rfl, TV_bool.2 rfl⟩
    cases ae with
    | normal => cases hx; exact fin .ready none rfl rfl hk
    | ret => cases hx; exact fin (.done .ret) (some .ret) rfl rfl hk
    | exit id => cases hx; exact fin (.done (.exit id)) (some (.exit id)) rfl rfl hk
    | pan v => exact hk.elim
end
end AVL

/- Numbers: what the operations on whole numbers come to where nothing is lost. -/
namespace AVL
open Go
set_option linter.unusedVariables false

theorem wrap_u8 {n : Int} (h : 0 ≤ n ∧ n < 256) : IntKind.u8.wrap n = n := by
  simp [IntKind.wrap, IntKind.signed, IntKind.bits]; omega
theorem wrap_u16 {n : Int} (h : 0 ≤ n ∧ n < 65536) : IntKind.u16.wrap n = n := by
  simp [IntKind.wrap, IntKind.signed, IntKind.bits]; omega
theorem wrap_u32 {n : Int} (h : 0 ≤ n ∧ n < 4294967296) : IntKind.u32.wrap n = n := by
  simp [IntKind.wrap, IntKind.signed, IntKind.bits]; omega
theorem wrap_u64 {n : Int} (h : 0 ≤ n ∧ n < 18446744073709551616) : IntKind.u64.wrap n = n := by
  simp [IntKind.wrap, IntKind.signed, IntKind.bits]; omega
theorem wrap_i64 {n : Int} (h : -9223372036854775808 ≤ n ∧ n < 9223372036854775808) : IntKind.i64.wrap n = n := by
  simp [IntKind.wrap, IntKind.signed, IntKind.bits]; omega

theorem wrap_u8m (n : Int) : IntKind.u8.wrap n = n % 256 := by simp [IntKind.wrap, IntKind.signed, IntKind.bits]
theorem wrap_u16m (n : Int) : IntKind.u16.wrap n = n % 65536 := by simp [IntKind.wrap, IntKind.signed, IntKind.bits]
theorem wrap_u32m (n : Int) : IntKind.u32.wrap n = n % 4294967296 := by simp [IntKind.wrap, IntKind.signed, IntKind.bits]
theorem wrap_u64m (n : Int) : IntKind.u64.wrap n = n % 18446744073709551616 := by simp [IntKind.wrap, IntKind.signed, IntKind.bits]
theorem bits_lt {k : IntKind} {n : Nat} (h : n < 2 ^ k.bits) (hs : k.signed = false) : k.wrap (n : Int) = n := by
  cases k <;> simp [IntKind.signed] at hs <;> simp [IntKind.bits] at h <;> simp [IntKind.wrap, IntKind.signed, IntKind.bits] <;> omega
theorem ofInt_nat (n a : Nat) (h : a < 2 ^ n) : (BitVec.ofInt n (a : Int)).toNat = a := by
  simp [Nat.mod_eq_of_lt h]
theorem bXor_nat {k : IntKind} (hs : k.signed = false) {a b : Nat} (ha : a < 2 ^ k.bits) (hb : b < 2 ^ k.bits) : bXor k (a : Int) (b : Int) = ((a ^^^ b : Nat) : Int) := by
  unfold bXor
  rw [BitVec.toNat_xor, ofInt_nat _ _ ha, ofInt_nat _ _ hb]
  exact bits_lt (Nat.xor_lt_two_pow ha hb) hs
theorem bAnd_nat {k : IntKind} (hs : k.signed = false) {a b : Nat} (ha : a < 2 ^ k.bits) (hb : b < 2 ^ k.bits) : bAnd k (a : Int) (b : Int) = ((a &&& b : Nat) : Int) := by
  unfold bAnd
  rw [BitVec.toNat_and, ofInt_nat _ _ ha, ofInt_nat _ _ hb]
  exact bits_lt (Nat.and_lt_two_pow _ hb) hs
theorem bOr_nat {k : IntKind} (hs : k.signed = false) {a b : Nat} (ha : a < 2 ^ k.bits) (hb : b < 2 ^ k.bits) : bOr k (a : Int) (b : Int) = ((a ||| b : Nat) : Int) := by
  unfold bOr
  rw [BitVec.toNat_or, ofInt_nat _ _ ha, ofInt_nat _ _ hb]
  exact bits_lt (Nat.or_lt_two_pow ha hb) hs
theorem shrI_nat {k : IntKind} {a b : Nat} : shrI k (a : Int) (b : Int) = ((a / 2 ^ min b k.bits : Nat) : Int) := by
  unfold shrI
  simp only [Int.toNat_natCast]
  rw [Int.fdiv_eq_ediv_of_nonneg _ (by exact Int.le_of_lt (Int.pow_pos (by decide)))]
  norm_cast
/-! bytes -/
def ints (l : List Nat) : List Int := l.map fun (n : Nat) => (n : Int)
@[simp] theorem ints_length (l : List Nat) : (ints l).length = l.length := by simp [ints]
@[simp] theorem ints_nil : ints [] = [] := rfl
@[simp] theorem ints_getD (l : List Nat) (i : Nat) : (ints l).getD i 0 = ((l.getD i 0 : Nat) : Int) := by
  simp only [ints, List.getD_eq_getElem?_getD, List.getElem?_map]
  cases l[i]? <;> rfl
@[simp] theorem ints_getD' (l : List Nat) (i : Nat) : (ints l)[i]?.getD 0 = ((l[i]?.getD 0 : Nat) : Int) := by
  simp only [ints, List.getElem?_map]
  cases l[i]? <;> rfl
@[simp] theorem ints_get (l : List Nat) (i : Nat) (h : i < (ints l).length) : (ints l)[i] = ((l[i]'(by simpa using h) : Nat) : Int) := by simp [ints]
@[simp] theorem ints_take (l : List Nat) (n : Nat) : (ints l).take n = ints (l.take n) := by simp [ints, List.map_take]
@[simp] theorem ints_drop (l : List Nat) (n : Nat) : (ints l).drop n = ints (l.drop n) := by simp [ints, List.map_drop]
@[simp] theorem ints_append (l m : List Nat) : ints l ++ ints m = ints (l ++ m) := by simp [ints]
@[simp] theorem ints_set (l : List Nat) (i n : Nat) : (ints l).set i (n : Int) = ints (l.set i n) := by simp [ints, List.map_set]
theorem ints_of {zs : List Int} (h : ∀ n ∈ zs, 0 ≤ n) : ints (zs.map Int.toNat) = zs := by
  simp only [ints, List.map_map]
  rw [List.map_congr_left (g := id) (fun n hn => by simp [Int.toNat_of_nonneg (h n hn)])]
  simp

theorem ints_inj {a b : List Nat} (h : ints a = ints b) : a = b := by
  have := congrArg (List.map Int.toNat) h
  simpa [ints, Function.comp_def] using this
theorem eqI_ints {n : Nat} {a b : List Nat} (ha : a.length = n) (hb : b.length = n) : eqI n (ints a) (ints b) = (a == b) := by
  rw [eqI_iff (by simp [ha]) (by simp [hb])]
  by_cases h : a = b
  · subst h; simp
  · have : ints a ≠ ints b := fun e => h (ints_inj e)
    simp [h, this]

theorem bytes_in {zs : List Int} (h : ∀ n ∈ zs, (Lit.int .u8 n).wf = true) : ∃ l : List Nat, zs = ints l ∧ ∀ x ∈ l, x < 256 := by
  have h' : ∀ n ∈ zs, 0 ≤ n ∧ n < 256 := fun n hn => by
    have := h n hn
    simp [Lit.wf, IntKind.min, IntKind.max, IntKind.signed, IntKind.bits] at this
    omega
  refine ⟨zs.map Int.toNat, (ints_of fun n hn => (h' n hn).1).symm, fun x hx => ?_⟩
  obtain ⟨n, hn, rfl⟩ := List.mem_map.1 hx
  have := h' n hn
  omega
theorem u16_in {n : Int} (h : (Lit.int .u16 n).wf = true) : ∃ c : Nat, n = c ∧ c < 65536 := by
  simp [Lit.wf, IntKind.min, IntKind.max, IntKind.signed, IntKind.bits] at h
  exact ⟨n.toNat, by omega, by omega⟩
theorem i64_in {n : Int} (h : (Lit.int .i64 n).wf = true) : -9223372036854775808 ≤ n ∧ n < 9223372036854775808 := by
  simp [Lit.wf, IntKind.min, IntKind.max, IntKind.signed, IntKind.bits] at h
  omega
theorem u8_in {n : Int} (h : (Lit.int .u8 n).wf = true) : ∃ c : Nat, n = c ∧ c < 256 := by
  simp [Lit.wf, IntKind.min, IntKind.max, IntKind.signed, IntKind.bits] at h
  exact ⟨n.toNat, by omega, by omega⟩
theorem u32_in {n : Int} (h : (Lit.int .u32 n).wf = true) : ∃ c : Nat, n = c ∧ c < 4294967296 := by
  simp [Lit.wf, IntKind.min, IntKind.max, IntKind.signed, IntKind.bits] at h
  exact ⟨n.toNat, by omega, by omega⟩

/-! calls that look alone -/
def H0 : Heap := fun _ => none
@[simp] theorem H0_app {g : Nat} : H0 g = none := rfl
@[simp] theorem H0_del {g : Nat} : H0.del g = H0 := by funext x; simp [del_app, H0]
@[simp] theorem H0_sub (A : Heap) : H0.Sub A := fun g c h => by cases h
theorem set_sub {A B : Heap} {g : Nat} {c : Cont} (h : A.Sub B) : (A.set g c).Sub (B.set g c) := fun x y hx => by
  rw [set_app] at hx ⊢
  split at hx
  · rename_i e; rw [if_pos e]; exact hx
  · rename_i e; rw [if_neg e]; exact h x y hx
@[simp] theorem eqS_iff {a b : ByteArray} : (a.toList = b.toList) ↔ a = b := by
  rw [Go.ByteArray.toList_eq, Go.ByteArray.toList_eq]
  exact ⟨fun h => by
    cases a with | mk x => cases b with | mk y => simp only at h; rw [Array.toList_inj.1 h], fun h => by rw [h]⟩
/-- A heap that holds these. -/
theorem sub_set {A B : Heap} {g : Nat} {c : Cont} (h : A.Sub B) (hb : B g = some c) : (A.set g c).Sub B := fun x y hx => by
  rw [set_app] at hx
  split at hx
  · rename_i e; subst e; rw [hb]; exact hx
  · exact h x y hx
theorem join_H0 (A : Heap) : A.join H0 = A := by funext g; simp only [Heap.join]; cases A g <;> rfl
theorem join_set (A : Heap) {g : Nat} {c : Cont} (h : A g = none) : A.join (H0.set g c) = A.set g c := by
  funext x
  simp only [Heap.join, Heap.set]
  by_cases e : x = g
  · subst e; simp [h]
  · simp only [if_neg e]; cases A x <;> rfl
/-- f, given these, returns v, and leaves nothing behind. -/
def Gives (P : Program) (f : FuncId) (args : List AV) (v : AV) : Prop := SimX P f args H0 fun o A' => o = .ret v ∧ A' = H0
/-- f, given these, returns a new row. -/
def Makes (P : Program) (f : FuncId) (args : List AV) (n : Nat) (c : Cont) : Prop := SimX P f args H0 fun o A' => ∃ g, o = .ret (.own g 0 n) ∧ A' = H0.set g c
/-- What a function is to end in: this value, and nothing is left behind. -/
def fin (res : List ARes) (v : AV) : APost := fpost res fun o A' => o = .ret v ∧ A' = H0
@[simp] theorem fin_ret {res : List ARes} {v : AV} {env : AEnv} {A : Heap} : fin res v .ret env A = aress env A res fun vs => outOf vs = v := by
  have : ∀ vs : List AV, (∃ B : Heap, B.Sub A ∧ AOut.ret (outOf vs) = .ret v ∧ B = H0) = (outOf vs = v) := fun vs => by
    apply propext
    exact ⟨fun ⟨_, _, h, _⟩ => by injection h, fun h => ⟨H0, H0_sub A, by rw [h], rfl⟩⟩
  simp only [fin, fpost, this]
@[simp] theorem fin_normal {res : List ARes} {v : AV} {env : AEnv} {A : Heap} : fin res v .normal env A = aress env A res fun vs => outOf vs = v :=
  (show fin res v .normal env A = fin res v .ret env A from rfl).trans fin_ret
theorem Gives_intro {P : Program} {f : FuncId} {fn : Func} {af : AFunc} {args : List AV} {v : AV} (hf : P.funcs[f]? = some fn) (ht : trF P fn = some af) (hn : args.length ≤ fn.ntmps)
    (h : X P (fin af.res v) af.body .done (env0 args) H0) : Gives P f args v := sim_of hf ht hn h
theorem Gives.sim {P : Program} {f : FuncId} {args : List AV} {v : AV} (h : Gives P f args v) : SimX P f args (fun _ => none) fun o _ => o = .ret v :=
  SimX.mono h fun _ _ h => h.1
section
variable {P : Program} {A : Heap} {K Kp : AV → Heap → Prop}
theorem Gives.call {f : FuncId} {args args' : List AV} {v : AV} (h : Gives P f args' v) (hv : VwL A args args') (hn : v.noF = true) (hk : K v A) : SimX P f args A (outK K Kp) :=
  SimX.view h hv (fun o B ⟨h1, h2⟩ => by subst h1; subst h2; exact ⟨hn, fun g c hc => by cases hc⟩)
    (fun o B ⟨h1, h2⟩ _ => by subst h1; subst h2; rw [join_H0]; exact hk)
theorem Makes.call {f : FuncId} {args args' : List AV} {n : Nat} {c : Cont} (h : Makes P f args' n c) (hv : VwL A args args') (hn : c.noF = true) (hk : ∀ g, A g = none → K (.own g 0 n) (A.set g c)) : SimX P f args A (outK K Kp) :=
  SimX.view h hv (fun o B ⟨g, h1, h2⟩ => by
      subst h1; subst h2
      refine ⟨rfl, fun g' c' hc => ?_⟩
      rw [set_app] at hc
      split at hc
      · injection hc with hc; subst hc; exact hn
      · cases hc)
    (fun o B ⟨g, h1, h2⟩ hd => by
      subst h1; subst h2
      have := hd g c (by simp)
      rw [join_set A this]
      exact hk g this)
/-- f, given these, ends so, and leaves nothing behind. -/
def Fins (P : Program) (f : FuncId) (args : List AV) (Q : AOut → Prop) : Prop := SimX P f args H0 fun o A' => Q o ∧ A' = H0
theorem Fins.call {f : FuncId} {args args' : List AV} {Q : AOut → Prop} (h : Fins P f args' Q) (hv : VwL A args args') (hn : ∀ o, Q o → o.noF = true) (hk : ∀ o, Q o → outK K Kp o A) : SimX P f args A (outK K Kp) :=
  SimX.view h hv (fun o B ⟨h1, h2⟩ => by subst h2; exact ⟨hn o h1, fun g c hc => by cases hc⟩)
    (fun o B ⟨h1, h2⟩ _ => by subst h2; rw [join_H0]; exact hk o h1)
theorem Fins.mono {f : FuncId} {args : List AV} {Q Q' : AOut → Prop} (h : Fins P f args Q) (hq : ∀ o, Q o → Q' o) : Fins P f args Q' := SimX.mono h fun o _ h => ⟨hq o h.1, h.2⟩
/-- What a function is to end in: so, and nothing is left behind. -/
def finE (res : List ARes) (Q : AOut → Prop) : APost := fpost res fun o A' => Q o ∧ A' = H0
@[simp] theorem finE_ret {res : List ARes} {Q : AOut → Prop} {env : AEnv} : finE res Q .ret env A = aress env A res fun vs => Q (.ret (outOf vs)) := by
  have : ∀ vs : List AV, (∃ B : Heap, B.Sub A ∧ Q (.ret (outOf vs)) ∧ B = H0) = Q (.ret (outOf vs)) := fun vs => by
    apply propext
    exact ⟨fun ⟨_, _, h, _⟩ => h, fun h => ⟨H0, H0_sub A, h, rfl⟩⟩
  simp only [finE, fpost, this]
@[simp] theorem finE_normal {res : List ARes} {Q : AOut → Prop} {env : AEnv} : finE res Q .normal env A = aress env A res fun vs => Q (.ret (outOf vs)) :=
  (show finE res Q .normal env A = finE res Q .ret env A from rfl).trans finE_ret
@[simp] theorem finE_pan {res : List ARes} {Q : AOut → Prop} {env : AEnv} {v : AV} : finE res Q (.pan v) env A = Q (.pan v) := by
  apply propext
  exact ⟨fun ⟨_, _, h, _⟩ => h, fun h => ⟨H0, H0_sub A, h, rfl⟩⟩
theorem Fins_intro {f : FuncId} {fn : Func} {af : AFunc} {args : List AV} {Q : AOut → Prop} (hf : P.funcs[f]? = some fn) (ht : trF P fn = some af) (hn : args.length ≤ fn.ntmps)
    (h : X P (finE af.res Q) af.body .done (env0 args) H0) : Fins P f args Q := sim_of hf ht hn h
end
end AVL

/- Rows that grow: a slice that is nil or its own row, atop of a heap that stays. -/
namespace AVL
open Go
set_option linter.unusedVariables false

@[simp] theorem agg_undef : (AV.undef).isAgg = false := rfl
@[simp] theorem agg_int {k : IntKind} {n : Int} : (AV.int k n).isAgg = false := rfl
@[simp] theorem agg_bool {b : Bool} : (AV.bool b).isAgg = false := rfl
@[simp] theorem agg_str {s : ByteArray} : (AV.str s).isAgg = false := rfl
@[simp] theorem agg_nilS : (AV.nilS).isAgg = false := rfl
@[simp] theorem agg_isl {k : IntKind} {l : List Int} : (AV.isl k l).isAgg = false := rfl
@[simp] theorem agg_dsl {s : Nat} {l : List AV} : (AV.dsl s l).isAgg = false := rfl
@[simp] theorem agg_own {g : Nat} {i : Nat} {n : Nat} : (AV.own g i n).isAgg = false := rfl
@[simp] theorem agg_asl {g : Nat} {o : Nat} {m : Nat} {i : Nat} {n : Nat} : (AV.asl g o m i n).isAgg = false := rfl
@[simp] theorem agg_ptr {g : Nat} {o : Nat} : (AV.ptr g o).isAgg = false := rfl
@[simp] theorem agg_pix {g : Nat} {o : Nat} {m : Nat} {i : Nat} : (AV.pix g o m i).isAgg = false := rfl
@[simp] theorem agg_pel {g : Nat} {i : Nat} {o : Nat} : (AV.pel g i o).isAgg = false := rfl
@[simp] theorem agg_pval {v : AV} : (AV.pval v).isAgg = false := rfl
@[simp] theorem agg_nilP : (AV.nilP).isAgg = false := rfl
@[simp] theorem agg_func {f : Fn} {a : List AV} {b : List AV} : (AV.func f a b).isAgg = false := rfl
@[simp] theorem agg_nilF : (AV.nilF).isAgg = false := rfl
@[simp] theorem agg_iface {t : TypeId} {v : AV} : (AV.iface t v).isAgg = false := rfl
@[simp] theorem agg_nilI : (AV.nilI).isAgg = false := rfl
@[simp] theorem agg_tuple {l : List AV} : (AV.tuple l).isAgg = false := rfl
@[simp] theorem agg_map {g : Nat} : (AV.map g).isAgg = false := rfl
@[simp] theorem agg_nilM : (AV.nilM).isAgg = false := rfl
@[simp] theorem agg_agg {l : List AV} : (AV.agg l).isAgg = true := rfl
@[simp] theorem agg_iarr {k : IntKind} {n : Nat} {l : List Int} : (AV.iarr k n l).isAgg = true := rfl
section
variable {F : AV → Prop}
@[simp] theorem alen_nil : alen false .nilS F = F (.int .i64 0) := rfl
@[simp] theorem alen_isl {k : IntKind} {l : List Int} : alen false (.isl k l) F = F (.int .i64 l.length) := rfl
@[simp] theorem alen_dsl {s : Nat} {l : List AV} : alen false (.dsl s l) F = F (.int .i64 l.length) := rfl
@[simp] theorem alen_own {g i n : Nat} : alen false (.own g i n) F = F (.int .i64 n) := rfl
@[simp] theorem alen_asl {g o m i n : Nat} : alen false (.asl g o m i n) F = F (.int .i64 n) := rfl
@[simp] theorem alen_str {s : ByteArray} : alen true (.str s) F = F (.int .i64 s.size) := rfl
end
theorem fresh_ne {A : Heap} {g x : Nat} {c : Cont} (h : A g = some c) (hx : A x = none) : g ≠ x := by rintro rfl; rw [h] at hx; cases hx
theorem sub_none {A : Heap} {g : Nat} {c : Cont} (h : A g = none) : A.Sub (A.set g c) := fun x y hx => by
  rw [set_app]; split
  · rename_i e; subst e; rw [h] at hx; cases hx
  · exact hx
theorem sub_tr {X Y Z : Heap} (h : X.Sub Y) (k : Y.Sub Z) : X.Sub Z := fun g c hg => k g c (h g c hg)
theorem sub_of_eq {X Y : Heap} (e : X = Y) : Y.Sub X := e ▸ Sub_refl _
theorem sub_new {A B : Heap} {g : Nat} {c : Cont} (h : A.Sub B) (hg : B g = none) : A.Sub (B.set g c) := sub_tr h (sub_none hg)
theorem sub_noneL {A B : Heap} {g : Nat} (h : A.Sub B) (hg : B g = none) : A g = none := by
  cases e : A g with
  | none => rfl
  | some c => have := h g c e; rw [hg] at this; cases this
theorem set_swap (A : Heap) {g h : Nat} (c d : Cont) (hgh : g ≠ h) : (A.set g c).set h d = (A.set h d).set g c := by
  funext x
  simp only [set_app]
  by_cases e : x = h
  · subst e; simp [Ne.symm hgh]
  · simp [e]
theorem set_same {A : Heap} {g : Nat} {c : Cont} (h : A g = some c) : A.set g c = A := by
  funext x
  simp only [set_app]
  split
  · rename_i e; subst e; exact h.symm
  · rfl

/-- A row of numbers that grows, atop of A. -/
structure SlS (e : TypeId) (k : IntKind) (v : AV) (l : List Int) (A B : Heap) : Prop where
  sub : A.Sub B
  own : (v = .nilS ∧ l = []) ∨ ∃ g, v = .own g 0 l.length ∧ A g = none ∧ B g = some (.irow e k l)
/-- A row that grows, atop of A. -/
structure SlR (e : TypeId) (sz : Nat) (v : AV) (l : List AV) (A B : Heap) : Prop where
  sub : A.Sub B
  own : (v = .nilS ∧ l = []) ∨ ∃ g, v = .own g 0 l.length ∧ A g = none ∧ B g = some (.row e sz l)
section
variable {e : TypeId} {k : IntKind} {sz : Nat} {v : AV} {l : List Int} {m : List AV} {A B C : Heap}
theorem SlS.nil (h : A.Sub B) : SlS e k .nilS [] A B := ⟨h, .inl ⟨rfl, rfl⟩⟩
theorem SlR.nil (h : A.Sub B) : SlR e sz .nilS [] A B := ⟨h, .inl ⟨rfl, rfl⟩⟩
theorem SlS.mono (h : SlS e k v l A B) (hs : B.Sub C) : SlS e k v l A C := ⟨sub_tr h.sub hs, h.own.imp id fun ⟨g, h1, h2, h3⟩ => ⟨g, h1, h2, hs _ _ h3⟩⟩
theorem SlR.mono (h : SlR e sz v m A B) (hs : B.Sub C) : SlR e sz v m A C := ⟨sub_tr h.sub hs, h.own.imp id fun ⟨g, h1, h2, h3⟩ => ⟨g, h1, h2, hs _ _ h3⟩⟩
theorem SlS.vw (h : SlS e k v l A B) : Vw B v (.isl k l) := by
  rcases h.own with ⟨rfl, rfl⟩ | ⟨g, rfl, _, hg⟩
  · exact .nil k
  · have := Vw.own (A := B) (i := 0) (n := l.length) hg (by omega)
    rwa [List.drop_zero, List.take_length] at this
theorem Vws.refls : ∀ l : List AV, Vws A l l
  | [] => .nil
  | v :: l => .cons (.refl v) (Vws.refls l)
theorem SlR.vw (h : SlR e sz v m A B) : Vw B v (.dsl sz m) := by
  rcases h.own with ⟨rfl, rfl⟩ | ⟨g, rfl, _, hg⟩
  · exact .nilD sz
  · exact .ownR (A := B) (i := 0) (n := m.length) hg (by omega) (by rw [List.drop_zero, List.take_length]; exact Vws.refls m)
theorem SlS.agg (h : SlS e k v l A B) : v.isAgg = false := by
  rcases h.own with ⟨rfl, rfl⟩ | ⟨g, rfl, hg⟩ <;> rfl
theorem SlR.agg (h : SlR e sz v m A B) : v.isAgg = false := by
  rcases h.own with ⟨rfl, rfl⟩ | ⟨g, rfl, hg⟩ <;> rfl
theorem SlS.len (h : SlS e k v l A B) {F : AV → Prop} : alen false v F = F (.int .i64 l.length) := by
  rcases h.own with ⟨rfl, rfl⟩ | ⟨g, rfl, hg⟩ <;> simp
theorem SlR.len (h : SlR e sz v m A B) {F : AV → Prop} : alen false v F = F (.int .i64 m.length) := by
  rcases h.own with ⟨rfl, rfl⟩ | ⟨g, rfl, hg⟩ <;> simp
theorem SlS.app (h : SlS e k v l A B) {bytes g1 : Nat} {ys : List Int} {K : AV → Heap → Prop} (h1 : C g1 = some (.irow e k ys)) (hs : B.Sub C) (hg : B g1 = none) (hb : (l.length + ys.length) * bytes ≤ 140737488355328)
    (hk : ∀ v' C', SlS e k v' (l ++ ys) A C' → v'.isAgg = false → K v' C') : aappI e k bytes v (.own g1 0 ys.length) C K := by
  rcases h.own with ⟨rfl, rfl⟩ | ⟨g, rfl, hA, hB⟩
  · simp only [List.length_nil, Nat.zero_add] at hb
    simp [h1, hb]
    exact fun g' hg' => hk _ _ ⟨sub_new (sub_tr h.sub hs) hg', .inr ⟨g', by simp, sub_noneL (sub_tr h.sub hs) hg', by simp⟩⟩ rfl
  · have hne : g ≠ g1 := fresh_ne hB hg
    have hC := hs _ _ hB
    simp [h1, hC, hb]
    intro g' hg'
    refine hk _ _ ⟨fun x c hx => ?_, .inr ⟨g', by simp, sub_noneL (sub_tr h.sub hs) hg', by simp⟩⟩ rfl
    have hxg : x ≠ g := fresh_ne hx hA
    have := hs _ _ (h.sub _ _ hx)
    rw [set_app, del_app, if_neg (fresh_ne this hg'), if_neg hxg]
    exact this
theorem SlR.app (h : SlR e sz v m A B) {bytes g1 : Nat} {ys : List AV} {K : AV → Heap → Prop} (h1 : C g1 = some (.row e sz ys)) (hst : AV.sts ys = true) (hs : B.Sub C) (hg : B g1 = none) (hb : (m.length + ys.length) * bytes ≤ 140737488355328)
    (hk : ∀ v' C', SlR e sz v' (m ++ ys) A C' → v'.isAgg = false → K v' C') : aapp e sz bytes v (.own g1 0 ys.length) C K := by
  rcases h.own with ⟨rfl, rfl⟩ | ⟨g, rfl, hA, hB⟩
  · simp only [List.length_nil, Nat.zero_add] at hb
    simp [h1, hst, hb]
    exact fun g' hg' => hk _ _ ⟨sub_new (sub_tr h.sub hs) hg', .inr ⟨g', by simp, sub_noneL (sub_tr h.sub hs) hg', by simp⟩⟩ rfl
  · have hne : g ≠ g1 := fresh_ne hB hg
    have hC := hs _ _ hB
    simp [h1, hC, hst, hb]
    intro g' hg'
    refine hk _ _ ⟨fun x c hx => ?_, .inr ⟨g', by simp, sub_noneL (sub_tr h.sub hs) hg', by simp⟩⟩ rfl
    have hxg : x ≠ g := fresh_ne hx hA
    have := hs _ _ (h.sub _ _ hx)
    rw [set_app, del_app, if_neg (fresh_ne this hg'), if_neg hxg]
    exact this
theorem SlS.rebase {g : Nat} {c : Cont} (h : SlS e k v l A B) (hg : B g = none) : SlS e k v l (A.set g c) (B.set g c) :=
  ⟨set_sub h.sub, h.own.imp id fun ⟨x, h1, h2, h3⟩ => by
    have := fresh_ne h3 hg
    exact ⟨x, h1, by simp [this, h2], by simp [this, h3]⟩⟩
theorem SlR.rebase {g : Nat} {c : Cont} (h : SlR e sz v m A B) (hg : B g = none) : SlR e sz v m (A.set g c) (B.set g c) :=
  ⟨set_sub h.sub, h.own.imp id fun ⟨x, h1, h2, h3⟩ => by
    have := fresh_ne h3 hg
    exact ⟨x, h1, by simp [this, h2], by simp [this, h3]⟩⟩
theorem SlS.base {A' : Heap} (h : SlS e k v l A B) (hs : A'.Sub A) : SlS e k v l A' B := ⟨sub_tr hs h.sub, h.own.imp id fun ⟨x, h1, h2, h3⟩ => ⟨x, h1, sub_noneL hs h2, h3⟩⟩
theorem SlR.base {A' : Heap} (h : SlR e sz v m A B) (hs : A'.Sub A) : SlR e sz v m A' B := ⟨sub_tr hs h.sub, h.own.imp id fun ⟨x, h1, h2, h3⟩ => ⟨x, h1, sub_noneL hs h2, h3⟩⟩
end
/-- f, given these, returns nil or a new row. -/
def MakesS (P : Program) (f : FuncId) (args : List AV) (e : TypeId) (k : IntKind) (l : List Int) : Prop :=
  SimX P f args H0 fun o A' => (o = .ret .nilS ∧ l = [] ∧ A' = H0) ∨ ∃ g, o = .ret (.own g 0 l.length) ∧ A' = H0.set g (.irow e k l)
def MakesR (P : Program) (f : FuncId) (args : List AV) (e : TypeId) (sz : Nat) (m : List AV) : Prop :=
  SimX P f args H0 fun o A' => (o = .ret .nilS ∧ m = [] ∧ A' = H0) ∨ ∃ g, o = .ret (.own g 0 m.length) ∧ A' = H0.set g (.row e sz m)
section
variable {P : Program} {e : TypeId} {k : IntKind} {sz : Nat} {v : AV} {l : List Int} {m : List AV} {A B : Heap} {f : FuncId} {args args' : List AV} {K Kp : AV → Heap → Prop}
theorem MakesS.call (h : MakesS P f args' e k l) (hv : VwL A args args') (hk : ∀ v B, SlS e k v l A B → K v B) : SimX P f args A (outK K Kp) :=
  SimX.view h hv (fun o B h => by
      rcases h with ⟨rfl, _, rfl⟩ | ⟨g, rfl, rfl⟩
      · exact ⟨rfl, fun g c hc => by cases hc⟩
      · refine ⟨rfl, fun g' c' hc => ?_⟩
        rw [set_app] at hc
        split at hc
        · injection hc with hc; subst hc; rfl
        · cases hc)
    (fun o B h hd => by
      rcases h with ⟨rfl, rfl, rfl⟩ | ⟨g, rfl, rfl⟩
      · rw [join_H0]; exact hk _ _ (SlS.nil (Sub_refl A))
      · have := hd g _ set_eq'
        rw [join_set A this]
        exact hk _ _ ⟨sub_none this, .inr ⟨g, rfl, this, by simp⟩⟩)
theorem MakesR.call (h : MakesR P f args' e sz m) (hv : VwL A args args') (hn : AV.noFs m = true) (hk : ∀ v B, SlR e sz v m A B → K v B) : SimX P f args A (outK K Kp) :=
  SimX.view h hv (fun o B h => by
      rcases h with ⟨rfl, _, rfl⟩ | ⟨g, rfl, rfl⟩
      · exact ⟨rfl, fun g c hc => by cases hc⟩
      · refine ⟨rfl, fun g' c' hc => ?_⟩
        rw [set_app] at hc
        split at hc
        · injection hc with hc; subst hc; exact hn
        · cases hc)
    (fun o B h hd => by
      rcases h with ⟨rfl, rfl, rfl⟩ | ⟨g, rfl, rfl⟩
      · rw [join_H0]; exact hk _ _ (SlR.nil (Sub_refl A))
      · have := hd g _ set_eq'
        rw [join_set A this]
        exact hk _ _ ⟨sub_none this, .inr ⟨g, rfl, this, by simp⟩⟩)
/-- What such a function ends in. -/
theorem SlS.fin (h : SlS e k v l A B) : ∃ B' : Heap, B'.Sub B ∧ ((AOut.ret v = .ret .nilS ∧ l = [] ∧ B' = H0) ∨ ∃ g, AOut.ret v = .ret (.own g 0 l.length) ∧ B' = H0.set g (.irow e k l)) := by
  rcases h.own with ⟨rfl, rfl⟩ | ⟨g, rfl, _, hB⟩
  · exact ⟨H0, H0_sub _, .inl ⟨rfl, rfl, rfl⟩⟩
  · exact ⟨_, sub_set (H0_sub _) hB, .inr ⟨g, rfl, rfl⟩⟩
theorem SlR.fin (h : SlR e sz v m A B) : ∃ B' : Heap, B'.Sub B ∧ ((AOut.ret v = .ret .nilS ∧ m = [] ∧ B' = H0) ∨ ∃ g, AOut.ret v = .ret (.own g 0 m.length) ∧ B' = H0.set g (.row e sz m)) := by
  rcases h.own with ⟨rfl, rfl⟩ | ⟨g, rfl, _, hB⟩
  · exact ⟨H0, H0_sub _, .inl ⟨rfl, rfl, rfl⟩⟩
  · exact ⟨_, sub_set (H0_sub _) hB, .inr ⟨g, rfl, rfl⟩⟩
end
end AVL

/- Rows that grow: sources of any kind; what a function leaves of the heap; results with more than one row. -/
namespace AVL
open Go
set_option linter.unusedVariables false

/-- Its own row, with others behind: the source is any. -/
theorem SlS.appS {e : TypeId} {k : IntKind} {v s : AV} {l ys : List Int} {A B C : Heap} (h : SlS e k v l A B) {bytes : Nat} {K : AV → Heap → Prop} (hs : B.Sub C) (hsrc : ∀ Q : List Int → Prop, Q ys → srcI k s C Q)
    (hb : (l.length + ys.length) * bytes ≤ 140737488355328) (hk : ∀ v' C', SlS e k v' (l ++ ys) A C' → v'.isAgg = false → K v' C') : aappI e k bytes v s C K := by
  unfold aappI
  refine hsrc _ ?_
  rcases h.own with ⟨rfl, rfl⟩ | ⟨g, rfl, hA, hB⟩
  · simp only [List.length_nil, Nat.zero_add] at hb
    exact ⟨hb, fun g' hg' => hk _ _ ⟨sub_new (sub_tr h.sub hs) hg', .inr ⟨g', by simp, sub_noneL (sub_tr h.sub hs) hg', by simp⟩⟩ rfl⟩
  · have hC := hs _ _ hB
    simp only [hC]
    refine ⟨trivial, trivial, by omega, hb, fun g' hg' => hk _ _ ⟨fun x c hx => ?_, .inr ⟨g', by simp, sub_noneL (sub_tr h.sub hs) hg', by simp⟩⟩ rfl⟩
    have hxg : x ≠ g := fresh_ne hx hA
    have := hs _ _ (h.sub _ _ hx)
    rw [set_app, del_app, if_neg (fresh_ne this hg'), if_neg hxg]
    exact this
theorem SlS.src {e : TypeId} {k : IntKind} {v : AV} {l : List Int} {A B C : Heap} (h : SlS e k v l A B) (hs : B.Sub C) : ∀ Q : List Int → Prop, Q l → srcI k v C Q := by
  intro Q hQ
  rcases h.own with ⟨rfl, rfl⟩ | ⟨g, rfl, hA, hB⟩
  · exact hQ
  · have hC := hs _ _ hB
    simp only [srcI, hC]
    refine ⟨trivial, by omega, ?_⟩
    rw [List.drop_zero, List.take_length]; exact hQ
theorem SlS.one {e : TypeId} {k : IntKind} {A : Heap} {g : Nat} {l : List Int} {n : Nat} (hA : A g = none) (hn : l.length = n) : SlS e k (.own g 0 n) l A (A.set g (.irow e k l)) :=
  ⟨sub_none hA, .inr ⟨g, by rw [hn], hA, by simp⟩⟩
/-- f, given these, returns nil or a new row, with something else. -/
def MakesP (P : Program) (f : FuncId) (args : List AV) (F : AV → AV) (e : TypeId) (k : IntKind) (l : List Int) : Prop :=
  SimX P f args H0 fun o A' => ∃ v, o = .ret (F v) ∧ ((v = .nilS ∧ l = [] ∧ A' = H0) ∨ ∃ g, v = .own g 0 l.length ∧ A' = H0.set g (.irow e k l))
theorem MakesP.call {P : Program} {f : FuncId} {args args' : List AV} {F : AV → AV} {e : TypeId} {k : IntKind} {l : List Int} {A : Heap} {K Kp : AV → Heap → Prop} (h : MakesP P f args' F e k l) (hv : VwL A args args')
    (hF : ∀ v : AV, v.noF = true → (F v).noF = true) (hk : ∀ v B, SlS e k v l A B → K (F v) B) : SimX P f args A (outK K Kp) :=
  SimX.view h hv (fun o B h => by
      obtain ⟨v, rfl, ⟨rfl, _, rfl⟩ | ⟨g, rfl, rfl⟩⟩ := h
      · exact ⟨hF _ rfl, fun g c hc => by cases hc⟩
      · refine ⟨hF _ rfl, fun g' c' hc => ?_⟩
        rw [set_app] at hc
        split at hc
        · injection hc with hc; subst hc; rfl
        · cases hc)
    (fun o B h hd => by
      obtain ⟨v, rfl, ⟨rfl, rfl, rfl⟩ | ⟨g, rfl, rfl⟩⟩ := h
      · rw [join_H0]; exact hk _ _ (SlS.nil (Sub_refl A))
      · have := hd g _ set_eq'
        rw [join_set A this]
        exact hk _ _ ⟨sub_none this, .inr ⟨g, rfl, this, by simp⟩⟩)
theorem SlS_finP {e : TypeId} {k : IntKind} {v : AV} {l : List Int} {A B : Heap} {F : AV → AV} (h : SlS e k v l A B) :
    ∃ B' : Heap, B'.Sub B ∧ ∃ u, AOut.ret (F v) = .ret (F u) ∧ ((u = .nilS ∧ l = [] ∧ B' = H0) ∨ ∃ g, u = .own g 0 l.length ∧ B' = H0.set g (.irow e k l)) := by
  rcases h.own with ⟨rfl, rfl⟩ | ⟨g, rfl, _, hB⟩
  · exact ⟨H0, H0_sub _, _, rfl, .inl ⟨rfl, rfl, rfl⟩⟩
  · exact ⟨_, sub_set (H0_sub _) hB, _, rfl, .inr ⟨g, rfl, rfl⟩⟩
theorem SlR.reset {e : TypeId} {sz : Nat} {v : AV} {m : List AV} {A B : Heap} {g : Nat} {c c' : Cont} (h : SlR e sz v m (A.set g c) B) : SlR e sz v m (A.set g c') (B.set g c') := by
  refine ⟨fun x y hx => ?_, h.own.imp id fun ⟨g1, h1, h2, h3⟩ => ?_⟩
  · rw [set_app] at hx ⊢
    split at hx
    · rename_i e; rw [if_pos e]; exact hx
    · rename_i e; rw [if_neg e]; exact h.sub x y (by rw [set_app, if_neg e]; exact hx)
  · have hne : g1 ≠ g := fun e => by subst e; simp at h2
    refine ⟨g1, h1, ?_, ?_⟩
    · rw [set_app, if_neg hne] at h2 ⊢; exact h2
    · rw [set_app, if_neg hne]; exact h3
/-- What of a heap these slices own. -/
def owns (g : Nat) : AV → Bool
  | .own g' _ _ => g == g'
  | _ => false
def Heap.only (B : Heap) (l : List AV) : Heap := fun g => if l.any (owns g) then B g else none
theorem only_sub (B : Heap) (l : List AV) : (B.only l).Sub B := fun g c h => by
  simp only [Heap.only] at h; split at h
  · exact h
  · cases h
theorem SlS_only {e : TypeId} {k : IntKind} {v : AV} {m : List Int} {A B : Heap} {l : List AV} (h : SlS e k v m A B) (hl : v ∈ l) : SlS e k v m H0 (B.only l) :=
  ⟨H0_sub _, h.own.imp id fun ⟨g, h1, _, h3⟩ => ⟨g, h1, rfl, by
    simp only [Heap.only]; rw [if_pos]; exact h3
    simp only [List.any_eq_true]; exact ⟨v, hl, by rw [h1]; simp [owns]⟩⟩⟩
theorem SlR_only {e : TypeId} {sz : Nat} {v : AV} {m : List AV} {A B : Heap} {l : List AV} (h : SlR e sz v m A B) (hl : v ∈ l) : SlR e sz v m H0 (B.only l) :=
  ⟨H0_sub _, h.own.imp id fun ⟨g, h1, _, h3⟩ => ⟨g, h1, rfl, by
    simp only [Heap.only]; rw [if_pos]; exact h3
    simp only [List.any_eq_true]; exact ⟨v, hl, by rw [h1]; simp [owns]⟩⟩⟩
theorem SlS_join {e : TypeId} {k : IntKind} {v : AV} {m : List Int} {A B : Heap} (h : SlS e k v m H0 B) (hd : ∀ g c, B g = some c → A g = none) : SlS e k v m A (A.join B) := by
  refine ⟨fun x y hx => by simp only [Heap.join, hx], h.own.imp id fun ⟨g, h1, _, h3⟩ => ⟨g, h1, hd g _ h3, by simp only [Heap.join, hd g _ h3]; exact h3⟩⟩
theorem SlR_join {e : TypeId} {sz : Nat} {v : AV} {m : List AV} {A B : Heap} (h : SlR e sz v m H0 B) (hd : ∀ g c, B g = some c → A g = none) : SlR e sz v m A (A.join B) := by
  refine ⟨fun x y hx => by simp only [Heap.join, hx], h.own.imp id fun ⟨g, h1, _, h3⟩ => ⟨g, h1, hd g _ h3, by simp only [Heap.join, hd g _ h3]; exact h3⟩⟩
theorem SlS.reset {e : TypeId} {k : IntKind} {v : AV} {m : List Int} {A B : Heap} {g : Nat} {c c' : Cont} (h : SlS e k v m (A.set g c) B) : SlS e k v m (A.set g c') (B.set g c') := by
  refine ⟨fun x y hx => ?_, h.own.imp id fun ⟨g1, h1, h2, h3⟩ => ?_⟩
  · rw [set_app] at hx ⊢
    split at hx
    · rename_i e; rw [if_pos e]; exact hx
    · rename_i e; rw [if_neg e]; exact h.sub x y (by rw [set_app, if_neg e]; exact hx)
  · have hne : g1 ≠ g := fun e => by subst e; simp at h2
    refine ⟨g1, h1, ?_, ?_⟩
    · rw [set_app, if_neg hne] at h2 ⊢; exact h2
    · rw [set_app, if_neg hne]; exact h3
/-- As before; what comes out is a row of its own. -/
theorem SlS.appO {e : TypeId} {k : IntKind} {v s : AV} {l ys : List Int} {A B C : Heap} (h : SlS e k v l A B) {bytes : Nat} {K : AV → Heap → Prop} (hs : B.Sub C) (hsrc : ∀ Q : List Int → Prop, Q ys → srcI k s C Q)
    (hb : (l.length + ys.length) * bytes ≤ 140737488355328) (hk : ∀ g' C', SlS e k (.own g' 0 (l ++ ys).length) (l ++ ys) A C' → K (.own g' 0 (l ++ ys).length) C') : aappI e k bytes v s C K := by
  unfold aappI
  refine hsrc _ ?_
  rcases h.own with ⟨rfl, rfl⟩ | ⟨g, rfl, hA, hB⟩
  · simp only [List.length_nil, Nat.zero_add] at hb
    exact ⟨hb, fun g' hg' => hk g' _ ⟨sub_new (sub_tr h.sub hs) hg', .inr ⟨g', rfl, sub_noneL (sub_tr h.sub hs) hg', by simp⟩⟩⟩
  · have hC := hs _ _ hB
    simp only [hC]
    refine ⟨trivial, trivial, by omega, hb, fun g' hg' => ?_⟩
    have := hk g' ((C.del g).set g' (.irow e k (l ++ ys))) ⟨fun x c hx => ?_, .inr ⟨g', rfl, sub_noneL (sub_tr h.sub hs) hg', by simp⟩⟩
    · rw [List.drop_zero, List.take_length, ← List.length_append]; exact this
    · have hxg : x ≠ g := fresh_ne hx hA
      have := hs _ _ (h.sub _ _ hx)
      rw [set_app, del_app, if_neg (fresh_ne this hg'), if_neg hxg]
      exact this
theorem SlR.appO {e : TypeId} {sz : Nat} {v : AV} {m ys : List AV} {A B C : Heap} (h : SlR e sz v m A B) {bytes g1 n : Nat} {K : AV → Heap → Prop} (h1 : C g1 = some (.row e sz ys)) (hn : n = ys.length) (hst : AV.sts ys = true) (hs : B.Sub C) (hg : B g1 = none)
    (hb : (m.length + ys.length) * bytes ≤ 140737488355328) (hk : ∀ g' C', SlR e sz (.own g' 0 (m ++ ys).length) (m ++ ys) A C' → K (.own g' 0 (m ++ ys).length) C') : aapp e sz bytes v (.own g1 0 n) C K := by
  subst hn
  rcases h.own with ⟨rfl, rfl⟩ | ⟨g, rfl, hA, hB⟩
  · simp only [List.length_nil, Nat.zero_add] at hb
    simp [aapp, srcG, h1, hst, hb]
    exact fun g' hg' => hk g' _ ⟨sub_new (sub_tr h.sub hs) hg', .inr ⟨g', rfl, sub_noneL (sub_tr h.sub hs) hg', by simp⟩⟩
  · have hne : g ≠ g1 := fresh_ne hB hg
    have hC := hs _ _ hB
    simp [aapp, srcG, h1, hC, hst, hb]
    intro g' hg'
    have := hk g' ((C.del g).set g' (.row e sz (m ++ ys))) ⟨fun x c hx => ?_, .inr ⟨g', rfl, sub_noneL (sub_tr h.sub hs) hg', by simp⟩⟩
    · simpa using this
    · have hxg : x ≠ g := fresh_ne hx hA
      have := hs _ _ (h.sub _ _ hx)
      rw [set_app, del_app, if_neg (fresh_ne this hg'), if_neg hxg]
      exact this
/-! values that are not known, but are slices -/
@[simp] theorem comps_undef : comps (AV.undef) = [AV.undef] := rfl
@[simp] theorem good_undef : good (AV.undef) = false := rfl
@[simp] theorem shp1_undef : shp .sc [AV.undef] = some (AV.undef) := rfl
@[simp] theorem sz_undef : (AV.undef).size = 1 := rfl
@[simp] theorem comps_int {k : IntKind} {n : Int} : comps (AV.int k n) = [AV.int k n] := rfl
@[simp] theorem good_int {k : IntKind} {n : Int} : good (AV.int k n) = true := rfl
@[simp] theorem shp1_int {k : IntKind} {n : Int} : shp .sc [AV.int k n] = some (AV.int k n) := rfl
@[simp] theorem sz_int {k : IntKind} {n : Int} : (AV.int k n).size = 1 := rfl
@[simp] theorem comps_bool {b : Bool} : comps (AV.bool b) = [AV.bool b] := rfl
@[simp] theorem good_bool {b : Bool} : good (AV.bool b) = true := rfl
@[simp] theorem shp1_bool {b : Bool} : shp .sc [AV.bool b] = some (AV.bool b) := rfl
@[simp] theorem sz_bool {b : Bool} : (AV.bool b).size = 1 := rfl
@[simp] theorem comps_str {s : ByteArray} : comps (AV.str s) = [AV.str s] := rfl
@[simp] theorem good_str {s : ByteArray} : good (AV.str s) = true := rfl
@[simp] theorem shp1_str {s : ByteArray} : shp .sc [AV.str s] = some (AV.str s) := rfl
@[simp] theorem sz_str {s : ByteArray} : (AV.str s).size = 1 := rfl
@[simp] theorem comps_nilS : comps (AV.nilS) = [AV.nilS] := rfl
@[simp] theorem good_nilS : good (AV.nilS) = true := rfl
@[simp] theorem shp1_nilS : shp .sc [AV.nilS] = some (AV.nilS) := rfl
@[simp] theorem sz_nilS : (AV.nilS).size = 1 := rfl
@[simp] theorem comps_isl {k : IntKind} {l : List Int} : comps (AV.isl k l) = [AV.isl k l] := rfl
@[simp] theorem good_isl {k : IntKind} {l : List Int} : good (AV.isl k l) = true := rfl
@[simp] theorem shp1_isl {k : IntKind} {l : List Int} : shp .sc [AV.isl k l] = some (AV.isl k l) := rfl
@[simp] theorem sz_isl {k : IntKind} {l : List Int} : (AV.isl k l).size = 1 := rfl
@[simp] theorem comps_dsl {s : Nat} {l : List AV} : comps (AV.dsl s l) = [AV.dsl s l] := rfl
@[simp] theorem good_dsl {s : Nat} {l : List AV} : good (AV.dsl s l) = true := rfl
@[simp] theorem shp1_dsl {s : Nat} {l : List AV} : shp .sc [AV.dsl s l] = some (AV.dsl s l) := rfl
@[simp] theorem sz_dsl {s : Nat} {l : List AV} : (AV.dsl s l).size = 1 := rfl
@[simp] theorem comps_own {g : Nat} {i : Nat} {n : Nat} : comps (AV.own g i n) = [AV.own g i n] := rfl
@[simp] theorem good_own {g : Nat} {i : Nat} {n : Nat} : good (AV.own g i n) = true := rfl
@[simp] theorem shp1_own {g : Nat} {i : Nat} {n : Nat} : shp .sc [AV.own g i n] = some (AV.own g i n) := rfl
@[simp] theorem sz_own {g : Nat} {i : Nat} {n : Nat} : (AV.own g i n).size = 1 := rfl
@[simp] theorem comps_asl {g : Nat} {o : Nat} {m : Nat} {i : Nat} {n : Nat} : comps (AV.asl g o m i n) = [AV.asl g o m i n] := rfl
@[simp] theorem good_asl {g : Nat} {o : Nat} {m : Nat} {i : Nat} {n : Nat} : good (AV.asl g o m i n) = true := rfl
@[simp] theorem shp1_asl {g : Nat} {o : Nat} {m : Nat} {i : Nat} {n : Nat} : shp .sc [AV.asl g o m i n] = some (AV.asl g o m i n) := rfl
@[simp] theorem sz_asl {g : Nat} {o : Nat} {m : Nat} {i : Nat} {n : Nat} : (AV.asl g o m i n).size = 1 := rfl
@[simp] theorem comps_ptr {g : Nat} {o : Nat} : comps (AV.ptr g o) = [AV.ptr g o] := rfl
@[simp] theorem good_ptr {g : Nat} {o : Nat} : good (AV.ptr g o) = true := rfl
@[simp] theorem shp1_ptr {g : Nat} {o : Nat} : shp .sc [AV.ptr g o] = some (AV.ptr g o) := rfl
@[simp] theorem sz_ptr {g : Nat} {o : Nat} : (AV.ptr g o).size = 1 := rfl
@[simp] theorem comps_pix {g : Nat} {o : Nat} {m : Nat} {i : Nat} : comps (AV.pix g o m i) = [AV.pix g o m i] := rfl
@[simp] theorem good_pix {g : Nat} {o : Nat} {m : Nat} {i : Nat} : good (AV.pix g o m i) = true := rfl
@[simp] theorem shp1_pix {g : Nat} {o : Nat} {m : Nat} {i : Nat} : shp .sc [AV.pix g o m i] = some (AV.pix g o m i) := rfl
@[simp] theorem sz_pix {g : Nat} {o : Nat} {m : Nat} {i : Nat} : (AV.pix g o m i).size = 1 := rfl
@[simp] theorem comps_pel {g : Nat} {i : Nat} {o : Nat} : comps (AV.pel g i o) = [AV.pel g i o] := rfl
@[simp] theorem good_pel {g : Nat} {i : Nat} {o : Nat} : good (AV.pel g i o) = true := rfl
@[simp] theorem shp1_pel {g : Nat} {i : Nat} {o : Nat} : shp .sc [AV.pel g i o] = some (AV.pel g i o) := rfl
@[simp] theorem sz_pel {g : Nat} {i : Nat} {o : Nat} : (AV.pel g i o).size = 1 := rfl
@[simp] theorem comps_pval {v : AV} : comps (AV.pval v) = [AV.pval v] := rfl
@[simp] theorem good_pval {v : AV} : good (AV.pval v) = true := rfl
@[simp] theorem shp1_pval {v : AV} : shp .sc [AV.pval v] = some (AV.pval v) := rfl
@[simp] theorem sz_pval {v : AV} : (AV.pval v).size = 1 := rfl
@[simp] theorem comps_nilP : comps (AV.nilP) = [AV.nilP] := rfl
@[simp] theorem good_nilP : good (AV.nilP) = true := rfl
@[simp] theorem shp1_nilP : shp .sc [AV.nilP] = some (AV.nilP) := rfl
@[simp] theorem sz_nilP : (AV.nilP).size = 1 := rfl
@[simp] theorem comps_func {f : Fn} {a : List AV} {b : List AV} : comps (AV.func f a b) = [AV.func f a b] := rfl
@[simp] theorem good_func {f : Fn} {a : List AV} {b : List AV} : good (AV.func f a b) = true := rfl
@[simp] theorem shp1_func {f : Fn} {a : List AV} {b : List AV} : shp .sc [AV.func f a b] = some (AV.func f a b) := rfl
@[simp] theorem sz_func {f : Fn} {a : List AV} {b : List AV} : (AV.func f a b).size = 1 := rfl
@[simp] theorem comps_nilF : comps (AV.nilF) = [AV.nilF] := rfl
@[simp] theorem good_nilF : good (AV.nilF) = true := rfl
@[simp] theorem shp1_nilF : shp .sc [AV.nilF] = some (AV.nilF) := rfl
@[simp] theorem sz_nilF : (AV.nilF).size = 1 := rfl
@[simp] theorem comps_iface {t : TypeId} {v : AV} : comps (AV.iface t v) = [AV.iface t v] := rfl
@[simp] theorem good_iface {t : TypeId} {v : AV} : good (AV.iface t v) = true := rfl
@[simp] theorem shp1_iface {t : TypeId} {v : AV} : shp .sc [AV.iface t v] = some (AV.iface t v) := rfl
@[simp] theorem sz_iface {t : TypeId} {v : AV} : (AV.iface t v).size = 1 := rfl
@[simp] theorem comps_nilI : comps (AV.nilI) = [AV.nilI] := rfl
@[simp] theorem good_nilI : good (AV.nilI) = true := rfl
@[simp] theorem shp1_nilI : shp .sc [AV.nilI] = some (AV.nilI) := rfl
@[simp] theorem sz_nilI : (AV.nilI).size = 1 := rfl
@[simp] theorem comps_tuple {l : List AV} : comps (AV.tuple l) = [AV.tuple l] := rfl
@[simp] theorem good_tuple {l : List AV} : good (AV.tuple l) = false := rfl
@[simp] theorem shp1_tuple {l : List AV} : shp .sc [AV.tuple l] = some (AV.tuple l) := rfl
@[simp] theorem sz_tuple {l : List AV} : (AV.tuple l).size = 1 := rfl
@[simp] theorem comps_map {g : Nat} : comps (AV.map g) = [AV.map g] := rfl
@[simp] theorem good_map {g : Nat} : good (AV.map g) = true := rfl
@[simp] theorem shp1_map {g : Nat} : shp .sc [AV.map g] = some (AV.map g) := rfl
@[simp] theorem sz_map {g : Nat} : (AV.map g).size = 1 := rfl
@[simp] theorem comps_nilM : comps (AV.nilM) = [AV.nilM] := rfl
@[simp] theorem good_nilM : good (AV.nilM) = true := rfl
@[simp] theorem shp1_nilM : shp .sc [AV.nilM] = some (AV.nilM) := rfl
@[simp] theorem sz_nilM : (AV.nilM).size = 1 := rfl
@[simp] theorem comps_agg {l : List AV} : comps (AV.agg l) = l := rfl
@[simp] theorem good_agg {l : List AV} : good (AV.agg l) = true := rfl
@[simp] theorem shp1_agg {l : List AV} : shp .sc [AV.agg l] = none := rfl
@[simp] theorem comps_iarr {k : IntKind} {n : Nat} {l : List Int} : comps (AV.iarr k n l) = [AV.iarr k n l] := rfl
@[simp] theorem good_iarr {k : IntKind} {n : Nat} {l : List Int} : good (AV.iarr k n l) = true := rfl
@[simp] theorem shp1_iarr {k : IntKind} {n : Nat} {l : List Int} : shp .sc [AV.iarr k n l] = (if n = 1 then some (.int k (l.getD 0 0)) else none) := rfl
@[simp] theorem sz_iarr {k : IntKind} {n : Nat} {l : List Int} : (AV.iarr k n l).size = n := rfl
@[simp] theorem shp_ag {l : List AV} : shp .ag l = some (.agg l) := rfl
@[simp] theorem shp_ia1 {k k2 : IntKind} {n n2 : Nat} {x : List Int} : shp (.ia k n) [.iarr k2 n2 x] = (if k2 = k ∧ n2 = n then some (.iarr k n x) else none) := rfl
structure Scl (v : AV) : Prop where
  agg : v.isAgg = false
  good : AVL.good v = true
  comps : AVL.comps v = [v]
  st : v.st = true
  size : v.size = 1
  shp : AVL.shp .sc [v] = some v
  noF : v.noF = true
theorem SlS.scl {e : TypeId} {k : IntKind} {v : AV} {l : List Int} {A B : Heap} (h : SlS e k v l A B) : Scl v := by
  rcases h.own with ⟨rfl, _⟩ | ⟨g, rfl, _⟩ <;> exact ⟨rfl, rfl, rfl, rfl, rfl, rfl, rfl⟩
theorem SlR.scl {e : TypeId} {sz : Nat} {v : AV} {l : List AV} {A B : Heap} (h : SlR e sz v l A B) : Scl v := by
  rcases h.own with ⟨rfl, _⟩ | ⟨g, rfl, _⟩ <;> exact ⟨rfl, rfl, rfl, rfl, rfl, rfl, rfl⟩
theorem vw_row {A : Heap} {g n : Nat} {t : TypeId} {sz : Nat} {l : List AV} (h : A g = some (.row t sz l)) (hn : n = l.length) : Vw A (.own g 0 n) (.dsl sz l) := by
  subst hn
  exact .ownR (A := A) (i := 0) (n := l.length) h (by omega) (by rw [List.drop_zero, List.take_length]; exact Vws.refls l)
theorem SlS.alone {e : TypeId} {k : IntKind} {l : List Int} {C : Heap} {g n : Nat} (hn : l.length = n) (h : C g = some (.irow e k l)) : SlS e k (.own g 0 n) l (C.del g) C :=
  ⟨fun x c hx => by rw [del_app] at hx; split at hx; cases hx; exact hx, .inr ⟨g, by rw [hn], by simp [del_app], h⟩⟩
theorem SlS.via {e : TypeId} {k : IntKind} {v : AV} {l : List Int} {A B C : Heap} {g : Nat} {c : Cont} (h : SlS e k v l A B) (hA : A g = some c) (hs : ∀ x c, x ≠ g → B x = some c → C x = some c) : SlS e k v l H0 C :=
  ⟨H0_sub _, h.own.imp id fun ⟨x, h1, h2, h3⟩ => ⟨x, h1, rfl, hs x _ (by rintro rfl; rw [h2] at hA; cases hA) h3⟩⟩
theorem SlR.via {e : TypeId} {sz : Nat} {v : AV} {l : List AV} {A B C : Heap} {g : Nat} {c : Cont} (h : SlR e sz v l A B) (hA : A g = some c) (hs : ∀ x c, x ≠ g → B x = some c → C x = some c) : SlR e sz v l H0 C :=
  ⟨H0_sub _, h.own.imp id fun ⟨x, h1, h2, h3⟩ => ⟨x, h1, rfl, hs x _ (by rintro rfl; rw [h2] at hA; cases hA) h3⟩⟩
end AVL

/- Strings, told by lists of numbers. -/
namespace AVL
open Go
set_option linter.unusedVariables false

/-- The string of these bytes. -/
def sN (l : List Nat) : ByteArray := strOf (ints l)
def bytN (s : ByteArray) : List Nat := s.data.toList.map UInt8.toNat
theorem sN_data (l : List Nat) : (sN l).data.toList = l.map UInt8.ofNat := by simp [sN, strOf, ints]
theorem strOf_ints (l : List Nat) : strOf (ints l) = sN l := rfl
@[simp] theorem sN_size (l : List Nat) : (sN l).size = l.length := by
  show (sN l).data.size = _
  rw [← Array.length_toList, sN_data, List.length_map]
theorem data_inj {a b : ByteArray} (h : a.data.toList = b.data.toList) : a = b := by
  cases a with | mk x => cases b with | mk y => rw [show x = y from Array.toList_inj.1 h]
theorem sN_bytN (s : ByteArray) : sN (bytN s) = s := by
  refine data_inj ?_
  rw [sN_data, bytN, List.map_map]
  rw [List.map_congr_left (g := id) (fun n _ => by simp)]
  simp
@[simp] theorem bytN_length (s : ByteArray) : (bytN s).length = s.size := by
  simp [bytN]
theorem bytN_lt (s : ByteArray) : ∀ x ∈ bytN s, x < 256 := by
  intro x hx
  obtain ⟨b, _, rfl⟩ := List.mem_map.1 hx
  exact b.toNat_lt
theorem u8_nat {n : Nat} (h : n < 256) : (UInt8.ofNat n).toNat = n := by simp [UInt8.toNat_ofNat', Nat.mod_eq_of_lt h]
theorem bytN_sN {l : List Nat} (h : ∀ x ∈ l, x < 256) : bytN (sN l) = l := by
  rw [bytN, sN_data, List.map_map, List.map_congr_left (g := id) (fun n hn => by simpa using u8_nat (h n hn))]
  simp
theorem bytesI_bytN (s : ByteArray) : bytesI s = ints (bytN s) := by simp [bytesI, bytN, ints]
theorem bytesI_sN {l : List Nat} (h : ∀ x ∈ l, x < 256) : bytesI (sN l) = ints l := by rw [bytesI_bytN, bytN_sN h]
theorem sN_inj {a b : List Nat} (ha : ∀ x ∈ a, x < 256) (hb : ∀ x ∈ b, x < 256) : (sN a = sN b) = (a = b) := by
  apply propext
  exact ⟨fun h => by rw [← bytN_sN ha, ← bytN_sN hb, h], fun h => by rw [h]⟩
theorem sN_append (a b : List Nat) : sN a ++ sN b = sN (a ++ b) := by
  refine data_inj ?_
  rw [ByteArray.data_append, Array.toList_append, sN_data, sN_data, sN_data, List.map_append]
theorem sN_extract (l : List Nat) (a b : Nat) : (sN l).extract a b = sN ((l.drop a).take (b - a)) := by
  refine data_inj ?_
  rw [ByteArray.data_extract, Array.toList_extract, sN_data, sN_data]
  simp [List.extract_eq_take_drop, List.map_take, List.map_drop]
theorem sN_less {a b : List Nat} (ha : ∀ x ∈ a, x < 256) (hb : ∀ x ∈ b, x < 256) : Op.bytesLess (sN a).toList (sN b).toList = decide (a < b) := by
  rw [Go.ByteArray.toList_eq, Go.ByteArray.toList_eq, sN_data, sN_data]
  induction a generalizing b with
  | nil => cases b with
    | nil => rfl
    | cons y s => simp [Op.bytesLess]
  | cons x r ih => cases b with
    | nil => simp [Op.bytesLess]
    | cons y s =>
      have hx := ha x (by simp)
      have hy := hb y (by simp)
      have ih := ih (b := s) (fun z hz => ha z (by simp [hz])) (fun z hz => hb z (by simp [hz]))
      simp only [List.map_cons, Op.bytesLess, ih, List.cons_lt_cons_iff]
      have e1 : (UInt8.ofNat x < UInt8.ofNat y) ↔ x < y := by rw [UInt8.lt_iff_toNat_lt, u8_nat hx, u8_nat hy]
      have e2 : (UInt8.ofNat x == UInt8.ofNat y) = decide (x = y) := by
        rw [Bool.eq_iff_iff]; simp only [beq_iff_eq, decide_eq_true_eq]
        exact ⟨fun h => by rw [← u8_nat hx, ← u8_nat hy, h], fun h => by rw [h]⟩
      rw [Bool.eq_iff_iff]
      simp [e1, e2]
end AVL

/- Rows that grow, amid others: all that is not the row itself; stores elsewhere; entries of maps. -/
namespace AVL
open Go
set_option linter.unusedVariables false

section
variable {e : TypeId} {k : IntKind} {sz : Nat} {v : AV} {l : List Int} {m : List AV} {A B C : Heap}
/-- All but the row. -/
theorem SlR.top (h : SlR e sz v m A B) : ∃ X : Heap, A.Sub X ∧ X.Sub B ∧ SlR e sz v m X B ∧ (∀ x c, B x = some c → (∀ n, v ≠ .own x 0 n) → X x = some c) ∧ ∀ x c, X x = some c → ∀ n, v ≠ .own x 0 n := by
  rcases h.own with ⟨rfl, rfl⟩ | ⟨g, rfl, hA, hB⟩
  · exact ⟨B, h.sub, Sub_refl B, SlR.nil (Sub_refl B), fun x c hx _ => hx, fun x c hx n e => by cases e⟩
  · refine ⟨B.del g, fun x c hx => ?_, fun x c hx => ?_, ⟨fun x c hx => ?_, .inr ⟨g, rfl, by simp [del_app], hB⟩⟩, fun x c hx hn => ?_, fun x c hx n e => ?_⟩
    · rw [del_app, if_neg (fresh_ne hx hA)]; exact h.sub _ _ hx
    · rw [del_app] at hx; split at hx
      · cases hx
      · exact hx
    · rw [del_app] at hx; split at hx
      · cases hx
      · exact hx
    · have : x ≠ g := by rintro rfl; exact hn _ rfl
      rw [del_app, if_neg this]; exact hx
    · injection e with e _ _; subst e; simp [del_app] at hx
theorem SlS.top (h : SlS e k v l A B) : ∃ X : Heap, A.Sub X ∧ X.Sub B ∧ SlS e k v l X B ∧ (∀ x c, B x = some c → (∀ n, v ≠ .own x 0 n) → X x = some c) ∧ ∀ x c, X x = some c → ∀ n, v ≠ .own x 0 n := by
  rcases h.own with ⟨rfl, rfl⟩ | ⟨g, rfl, hA, hB⟩
  · exact ⟨B, h.sub, Sub_refl B, SlS.nil (Sub_refl B), fun x c hx _ => hx, fun x c hx n e => by cases e⟩
  · refine ⟨B.del g, fun x c hx => ?_, fun x c hx => ?_, ⟨fun x c hx => ?_, .inr ⟨g, rfl, by simp [del_app], hB⟩⟩, fun x c hx hn => ?_, fun x c hx n e => ?_⟩
    · rw [del_app, if_neg (fresh_ne hx hA)]; exact h.sub _ _ hx
    · rw [del_app] at hx; split at hx
      · cases hx
      · exact hx
    · rw [del_app] at hx; split at hx
      · cases hx
      · exact hx
    · have : x ≠ g := by rintro rfl; exact hn _ rfl
      rw [del_app, if_neg this]; exact hx
    · injection e with e _ _; subst e; simp [del_app] at hx
/-- What stands in its base is not the row. -/
theorem SlR.not_base (h : SlR e sz v m A B) {x : Nat} {c : Cont} (hx : A x = some c) : ∀ n, v ≠ .own x 0 n := fun n e => by
  rcases h.own with ⟨rfl, _⟩ | ⟨g, rfl, hA, _⟩
  · cases e
  · injection e with e _ _; subst e; rw [hx] at hA; cases hA
theorem SlS.not_base (h : SlS e k v l A B) {x : Nat} {c : Cont} (hx : A x = some c) : ∀ n, v ≠ .own x 0 n := fun n e => by
  rcases h.own with ⟨rfl, _⟩ | ⟨g, rfl, hA, _⟩
  · cases e
  · injection e with e _ _; subst e; rw [hx] at hA; cases hA
theorem SlR.ne (h : SlR e sz v m A B) {x : Nat} {c : Cont} (hx : B x = some c) (hc : ∀ l, c ≠ .row e sz l) : ∀ n, v ≠ .own x 0 n := fun n e => by
  rcases h.own with ⟨rfl, _⟩ | ⟨g, rfl, _, hB⟩
  · cases e
  · injection e with e _ _; subst e; rw [hx] at hB; injection hB with hB; exact hc _ hB
theorem SlS.ne (h : SlS e k v l A B) {x : Nat} {c : Cont} (hx : B x = some c) (hc : ∀ l, c ≠ .irow e k l) : ∀ n, v ≠ .own x 0 n := fun n e => by
  rcases h.own with ⟨rfl, _⟩ | ⟨g, rfl, _, hB⟩
  · cases e
  · injection e with e _ _; subst e; rw [hx] at hB; injection hB with hB; exact hc _ hB
theorem SlR.pos (h : SlR e sz v m A B) (hp : 0 < m.length) : ∃ g, v = .own g 0 m.length ∧ A g = none ∧ B g = some (.row e sz m) := by
  rcases h.own with ⟨_, rfl⟩ | h
  · cases hp
  · exact h
theorem SlS.pos (h : SlS e k v l A B) (hp : 0 < l.length) : ∃ g, v = .own g 0 l.length ∧ A g = none ∧ B g = some (.irow e k l) := by
  rcases h.own with ⟨_, rfl⟩ | h
  · cases hp
  · exact h
theorem SlR.at {g i n : Nat} (h : SlR e sz (.own g i n) m A B) : A g = none ∧ B g = some (.row e sz m) ∧ i = 0 ∧ n = m.length := by
  rcases h.own with ⟨e, _⟩ | ⟨x, e, h1, h2⟩
  · cases e
  · injection e with e1 e2 e3; subst e1; exact ⟨h1, h2, e2, e3⟩
theorem SlS.at {g i n : Nat} (h : SlS e k (.own g i n) l A B) : A g = none ∧ B g = some (.irow e k l) ∧ i = 0 ∧ n = l.length := by
  rcases h.own with ⟨e, _⟩ | ⟨x, e, h1, h2⟩
  · cases e
  · injection e with e1 e2 e3; subst e1; exact ⟨h1, h2, e2, e3⟩
/-- A store elsewhere. -/
theorem SlR.set (h : SlR e sz v m A B) {x : Nat} {c : Cont} (hx : A x = none) (hn : ∀ n, v ≠ .own x 0 n) : SlR e sz v m A (B.set x c) :=
  ⟨fun y d hy => by rw [set_app, if_neg (fresh_ne hy hx)]; exact h.sub _ _ hy, h.own.imp id fun ⟨g, h1, h2, h3⟩ => ⟨g, h1, h2, by
    have : g ≠ x := by rintro rfl; exact hn _ h1
    rw [set_app, if_neg this]; exact h3⟩⟩
theorem SlS.set (h : SlS e k v l A B) {x : Nat} {c : Cont} (hx : A x = none) (hn : ∀ n, v ≠ .own x 0 n) : SlS e k v l A (B.set x c) :=
  ⟨fun y d hy => by rw [set_app, if_neg (fresh_ne hy hx)]; exact h.sub _ _ hy, h.own.imp id fun ⟨g, h1, h2, h3⟩ => ⟨g, h1, h2, by
    have : g ≠ x := by rintro rfl; exact hn _ h1
    rw [set_app, if_neg this]; exact h3⟩⟩
end
/-- A row that is appended, of any kind of slice. -/
theorem SlR.src {e : TypeId} {sz : Nat} {v : AV} {m : List AV} {A B C : Heap} (h : SlR e sz v m A B) (hs : B.Sub C) : ∀ Q : List AV → Prop, Q m → srcG sz v C Q := by
  intro Q hQ
  rcases h.own with ⟨rfl, rfl⟩ | ⟨g, rfl, hA, hB⟩
  · exact hQ
  · have hC := hs _ _ hB
    simp only [srcG, hC]
    refine ⟨trivial, by omega, ?_⟩
    rw [List.drop_zero, List.take_length]; exact hQ
theorem src_row {e : TypeId} {sz g n : Nat} {m : List AV} {C : Heap} (h : C g = some (.row e sz m)) (hn : n = m.length) : ∀ Q : List AV → Prop, Q m → srcG sz (.own g 0 n) C Q := by
  intro Q hQ
  subst hn
  simp only [srcG, h]
  refine ⟨trivial, by omega, ?_⟩
  rw [List.drop_zero, List.take_length]; exact hQ
theorem src_part {e : TypeId} {sz g i n : Nat} {m : List AV} {C : Heap} (h : C g = some (.row e sz m)) (hn : i + n ≤ m.length) : ∀ Q : List AV → Prop, Q ((m.drop i).take n) → srcG sz (.own g i n) C Q := by
  intro Q hQ
  simp only [srcG, h]
  exact ⟨trivial, by omega, hQ⟩
theorem srcI_row {e : TypeId} {k : IntKind} {g n : Nat} {l : List Int} {C : Heap} (h : C g = some (.irow e k l)) (hn : n = l.length) : ∀ Q : List Int → Prop, Q l → srcI k (.own g 0 n) C Q := by
  intro Q hQ
  subst hn
  simp only [srcI, h]
  refine ⟨trivial, by omega, ?_⟩
  rw [List.drop_zero, List.take_length]; exact hQ
theorem srcI_str {s : ByteArray} {C : Heap} : ∀ Q : List Int → Prop, Q (bytesI s) → srcI .u8 (.str s) C Q := fun Q hQ => ⟨rfl, hQ⟩
theorem srcI_isl {k : IntKind} {l : List Int} {C : Heap} : ∀ Q : List Int → Prop, Q l → srcI k (.isl k l) C Q := fun Q hQ => ⟨rfl, hQ⟩
theorem srcI_asl {t : TypeId} {k : IntKind} {g o m : Nat} {us : List AV} {l : List Int} {C : Heap} (h : C g = some (.var t us)) (hg : getI us o m = some (k, l)) (hl : l.length = m) : ∀ Q : List Int → Prop, Q l → srcI k (.asl g o m 0 m) C Q := by
  intro Q hQ
  simp only [srcI, h, hg]
  refine ⟨trivial, hl, ?_⟩
  rw [List.drop_zero, List.take_of_length_le (by omega)]; exact hQ
theorem src_dsl {sz : Nat} {m : List AV} {C : Heap} : ∀ Q : List AV → Prop, Q m → srcG sz (.dsl sz m) C Q := fun Q hQ => ⟨rfl, hQ⟩
theorem SlR.one {e : TypeId} {sz g n : Nat} {m : List AV} {A : Heap} (h : A g = none) (hn : n = m.length) : SlR e sz (.own g 0 n) m A (A.set g (.row e sz m)) := by
  subst hn
  exact ⟨sub_none h, .inr ⟨g, rfl, h, by simp⟩⟩
theorem SlR.appS {e : TypeId} {sz : Nat} {v s : AV} {m ys : List AV} {A B C : Heap} (h : SlR e sz v m A B) {bytes : Nat} {K : AV → Heap → Prop} (hs : B.Sub C) (hsrc : ∀ Q : List AV → Prop, Q ys → srcG sz s C Q) (hst : AV.sts ys = true)
    (hb : (m.length + ys.length) * bytes ≤ 140737488355328) (hk : ∀ g' n C', n = (m ++ ys).length → SlR e sz (.own g' 0 n) (m ++ ys) A C' → K (.own g' 0 n) C') : aapp e sz bytes v s C K := by
  unfold aapp
  refine hsrc _ ⟨hst, ?_⟩
  rcases h.own with ⟨rfl, rfl⟩ | ⟨g, rfl, hA, hB⟩
  · simp only [List.length_nil, Nat.zero_add] at hb
    exact ⟨hb, fun g' hg' => hk _ _ _ (by simp) ⟨sub_new (sub_tr h.sub hs) hg', .inr ⟨g', by simp, sub_noneL (sub_tr h.sub hs) hg', by simp⟩⟩⟩
  · have hC := hs _ _ hB
    simp only [hC]
    refine ⟨trivial, trivial, by omega, hb, fun g' hg' => hk _ _ _ (by simp) ⟨fun x c hx => ?_, .inr ⟨g', by simp, sub_noneL (sub_tr h.sub hs) hg', by simp⟩⟩⟩
    have hxg : x ≠ g := fresh_ne hx hA
    have := hs _ _ (h.sub _ _ hx)
    rw [set_app, del_app, if_neg (fresh_ne this hg'), if_neg hxg]
    exact this
/-- Part of a row, with others behind. -/
theorem aapp_part {e : TypeId} {sz bytes g i n : Nat} {s : AV} {R ys : List AV} {C : Heap} {K : AV → Heap → Prop} (hg : C g = some (.row e sz R)) (hn : i + n ≤ R.length) (hsrc : ∀ Q : List AV → Prop, Q ys → srcG sz s C Q) (hst : AV.sts ys = true)
    (hb : (n + ys.length) * bytes ≤ 140737488355328) (hk : ∀ g', C g' = none → K (.own g' 0 (n + ys.length)) ((C.del g).set g' (.row e sz ((R.drop i).take n ++ ys)))) : aapp e sz bytes (.own g i n) s C K := by
  unfold aapp
  refine hsrc _ ⟨hst, ?_⟩
  simp only [hg]
  exact ⟨trivial, trivial, hn, hb, hk⟩
/-- A whole array, with others behind. -/
theorem aappI_arr {e t : TypeId} {k : IntKind} {bytes g o m : Nat} {s : AV} {us : List AV} {l ys : List Int} {C : Heap} {K : AV → Heap → Prop} (h : C g = some (.var t us)) (hg : getI us o m = some (k, l)) (hl : l.length = m) (hsrc : ∀ Q : List Int → Prop, Q ys → srcI k s C Q)
    (hp : 0 < ys.length) (hb : (l.length + ys.length) * bytes ≤ 140737488355328) (hk : ∀ v' C', SlS e k v' (l ++ ys) C C' → v'.isAgg = false → K v' C') : aappI e k bytes (.asl g o m 0 m) s C K := by
  unfold aappI
  refine hsrc _ ?_
  simp only [h, hg]
  subst hl
  rw [List.drop_zero, List.take_length]
  exact ⟨trivial, rfl, by omega, hp, hb, fun g' hg' => hk _ _ ⟨sub_none hg', .inr ⟨g', by simp, hg', by simp⟩⟩ rfl⟩
/-! rows of cells of one value each -/
def AllS (l : List AV) : Prop := ∀ v ∈ l, v.size = 1
theorem dropC_S : ∀ {l : List AV} {i : Nat}, AllS l → i ≤ l.length → dropC l i = some (l.drop i)
  | l, 0, _, _ => by simp [dropC]
  | [], i + 1, _, h => by simp at h
  | v :: r, i + 1, hl, h => by
    have h1 := hl v (by simp)
    have ih := dropC_S (l := r) (i := i) (fun x hx => hl x (by simp [hx])) (by simpa using h)
    unfold dropC
    rw [h1, if_pos (by omega), Nat.add_sub_cancel, ih]; rfl
theorem takeC_S : ∀ {l : List AV} {i : Nat}, AllS l → i ≤ l.length → takeC l i = some (l.take i)
  | l, 0, _, _ => by simp [takeC]
  | [], i + 1, _, h => by simp at h
  | v :: r, i + 1, hl, h => by
    have h1 := hl v (by simp)
    have ih := takeC_S (l := r) (i := i) (fun x hx => hl x (by simp [hx])) (by simpa using h)
    unfold takeC
    rw [h1, if_pos (by omega), Nat.add_sub_cancel, ih]; rfl
theorem AllS.drop {l : List AV} (h : AllS l) (i : Nat) : AllS (l.drop i) := fun v hv => h v (List.mem_of_mem_drop hv)
theorem getC_S {l : List AV} {i : Nat} (h : AllS l) (hi : i < l.length) (hs : shp .sc [l[i]] = some l[i]) : getC l i 1 .sc = some l[i] := by
  have e : (l.drop i).take 1 = [l[i]] := by rw [List.drop_eq_getElem_cons hi]; rfl
  have h2 := takeC_S (i := 1) (h.drop i) (by simp; omega)
  unfold getC
  simp only [dropC_S h (Nat.le_of_lt hi), h2, e]; exact hs
theorem setC_S {l : List AV} {i : Nat} (h : AllS l) (hi : i < l.length) (v : AV) : setC l i 1 [v] = some (l.set i v) := by
  unfold setC
  rw [takeC_S h (by omega), dropC_S h (by omega)]
  simp only [List.set_eq_take_append_cons_drop, if_pos hi]; rfl
theorem sub_set' {A B : Heap} {x : Nat} {c : Cont} (h : A.Sub B) (hx : A x = none) : A.Sub (B.set x c) := fun y d hy => by
  rw [set_app, if_neg (fresh_ne hy hx)]; exact h _ _ hy
theorem sub_del {A B : Heap} {x : Nat} (h : A.Sub B) (hx : A x = none) : A.Sub (B.del x) := fun y d hy => by
  rw [del_app, if_neg (fresh_ne hy hx)]; exact h _ _ hy
theorem del_sub {A : Heap} {x : Nat} : (A.del x).Sub A := fun y d hy => by
  rw [del_app] at hy; split at hy
  · cases hy
  · exact hy
/-- A base, and all that is new. -/
def Heap.plus (A B B' : Heap) : Heap := fun x => match B x with
  | none => B' x
  | some _ => A x
theorem plus_new {A B B' : Heap} {x : Nat} (h : B x = none) : A.plus B B' x = B' x := by simp only [Heap.plus, h]
theorem sub_plus {A B B' : Heap} (h : A.Sub B) : A.Sub (A.plus B B') := fun x c hx => by simp only [Heap.plus, h x c hx]; exact hx
theorem plus_sub {A B B' : Heap} (h : A.Sub B) (hs : B.Sub B') : (A.plus B B').Sub B' := fun x c hx => by
  simp only [Heap.plus] at hx
  split at hx
  · exact hx
  · exact hs _ _ (h _ _ hx)
theorem plus_mono {A B B' B2 : Heap} (hs : B'.Sub B2) : (A.plus B B').Sub (A.plus B B2) := fun x c hx => by
  simp only [Heap.plus] at hx ⊢
  split at hx
  · rename_i e; exact hs _ _ hx
  · rename_i e; exact hx
theorem plus_sub2 {A B B4 C B' : Heap} (hA : A.Sub B) (h4 : B.Sub B4) (hs : ∀ x c, B4 x = none → C x = some c → B' x = some c) : (A.plus B4 C).Sub (A.plus B B') := fun x c hx => by
  simp only [Heap.plus] at hx ⊢
  split at hx
  · rename_i e; rw [sub_noneL h4 e]; exact hs _ _ e hx
  · rw [hA _ _ hx]; exact hx
theorem plus_none {A B B' : Heap} {x : Nat} {c : Cont} (h : B x = some c) (hA : A x = none) : A.plus B B' x = none := by simp only [Heap.plus, h]; exact hA
theorem plus_self {A B : Heap} (h : A.Sub B) : (A.plus B B) = A := by
  funext x
  simp only [Heap.plus]
  split
  · rename_i e; rw [e]; exact (sub_noneL h e).symm
  · rfl
theorem getM_putM : ∀ (m : List (Int × AV)) (n : Int) (v : AV) (k : Int), getM (putM m n v) k = if k = n then some v else getM m k
  | [], n, v, k => by simp only [putM, getM]
  | (a, u) :: r, n, v, k => by
    simp only [putM]
    split
    · rename_i h; subst h
      simp only [getM]
      split <;> rfl
    · rename_i h
      simp only [getM, getM_putM r n v k]
      by_cases h1 : k = a
      · subst h1
        have : ¬ k = n := fun e => h e.symm
        simp [this]
      · simp [h1]
end AVL

/- Rounds' ends; rows of rows; views of whole rows and arrays. -/
namespace AVL
open Go
attribute [-simp] AV.isAgg aappI aapp alen shp good comps
set_option linter.unusedVariables false
set_option linter.unusedSimpArgs false

section
variable {A B C : Heap} {K Kp : AV → Heap → Prop} {P : Program}
@[simp] theorem rdA_normal {g : Nat} {en : List AV} {ps : List Nat} {asg body : Code} {bA : ACode} {env : AEnv} : rdA P g en ps asg body bA K .normal env B = (B g = some (.lp en ps asg body .ready) ∧ X P (rdB g en ps asg body K) bA .done env (B.set g (.lp en ps asg body .busy))) := rfl
@[simp] theorem rdB_normal {g : Nat} {en : List AV} {ps : List Nat} {asg body : Code} {env : AEnv} : rdB g en ps asg body K .normal env B = (B g = some (.lp en ps asg body .busy) ∧ K (.bool true) (B.set g (.lp en ps asg body .ready))) := rfl
@[simp] theorem rdB_ret {g : Nat} {en : List AV} {ps : List Nat} {asg body : Code} {env : AEnv} : rdB g en ps asg body K .ret env B = (B g = some (.lp en ps asg body .busy) ∧ K (.bool false) (B.set g (.lp en ps asg body (.done .ret)))) := rfl
@[simp] theorem rdB_exit {g id : Nat} {en : List AV} {ps : List Nat} {asg body : Code} {env : AEnv} : rdB g en ps asg body K (.exit id) env B = (B g = some (.lp en ps asg body .busy) ∧ K (.bool false) (B.set g (.lp en ps asg body (.done (.exit id))))) := rfl
theorem vw_irow {g n : Nat} {e : TypeId} {k : IntKind} {l : List Int} (h : A g = some (.irow e k l)) (hn : n = l.length) : Vw A (.own g 0 n) (.isl k l) := by
  subst hn
  have := Vw.own (A := A) (i := 0) (n := l.length) h (by omega)
  rwa [List.drop_zero, List.take_length] at this
theorem vw_arr {g m n : Nat} {t : TypeId} {k : IntKind} {l : List Int} (h : A g = some (.var t [.iarr k m l])) (hl : l.length = m) : Vw A (.asl g 0 m 0 n) (.isl k (l.take n)) := by
  have := Vw.asl (A := A) (o := 0) (m := m) (i := 0) (n := n) h (k := k) (xs := l) (by unfold getI; simp) hl
  rwa [List.drop_zero] at this
theorem vw_arrP {g m i n : Nat} {t : TypeId} {k : IntKind} {l : List Int} (h : A g = some (.var t [.iarr k m l])) (hl : l.length = m) : Vw A (.asl g 0 m i n) (.isl k ((l.drop i).take n)) :=
  Vw.asl (A := A) (o := 0) (m := m) (i := i) (n := n) h (k := k) (xs := l) (by unfold getI; simp) hl
theorem srcI_arrP {g m i n : Nat} {t : TypeId} {k : IntKind} {l ys : List Int} (h : A g = some (.var t [.iarr k m l])) (hl : l.length = m) (hy : ys = (l.drop i).take n) : ∀ Q : List Int → Prop, Q ys → srcI k (.asl g 0 m i n) A Q := by
  intro Q hQ
  subst hy
  simp only [srcI, h, show getI [.iarr k m l] 0 m = some (k, l) by unfold getI; simp]
  exact ⟨trivial, hl, hQ⟩
theorem vw_arr' {g m : Nat} {t : TypeId} {k : IntKind} {l : List Int} (h : A g = some (.var t [.iarr k m l])) (hl : l.length = m) : Vw A (.asl g 0 m 0 m) (.isl k l) := by
  have := vw_arr (n := m) h hl
  rwa [List.take_of_length_le (by omega)] at this
theorem del_none {g : Nat} (h : A g = none) : A.del g = A := by
  funext x; rw [del_app]; split
  · rename_i e; subst e; exact h.symm
  · rfl
/-- One by one. -/
def All2 {α β : Type} (R : α → β → Prop) : List α → List β → Prop
  | [], [] => True
  | a :: xs, b :: ys => R a b ∧ All2 R xs ys
  | _, _ => False
theorem All2.len {α β : Type} {R : α → β → Prop} : ∀ {xs : List α} {ys : List β}, All2 R xs ys → xs.length = ys.length
  | [], [], _ => rfl
  | _ :: _, _ :: _, h => by simp [All2.len h.2]
  | [], _ :: _, h => h.elim
  | _ :: _, [], h => h.elim
theorem All2.imp {α β : Type} {R S : α → β → Prop} (hi : ∀ a b, R a b → S a b) : ∀ {xs : List α} {ys : List β}, All2 R xs ys → All2 S xs ys
  | [], [], _ => trivial
  | _ :: _, _ :: _, h => ⟨hi _ _ h.1, All2.imp hi h.2⟩
  | [], _ :: _, h => h.elim
  | _ :: _, [], h => h.elim
theorem All2.app {α β : Type} {R : α → β → Prop} : ∀ {xs : List α} {ys : List β} {cs : List α} {ds : List β}, All2 R xs ys → All2 R cs ds → All2 R (xs ++ cs) (ys ++ ds)
  | [], [], _, _, _, k => k
  | _ :: _, _ :: _, _, _, h, k => ⟨h.1, All2.app h.2 k⟩
  | [], _ :: _, _, _, h, _ => h.elim
  | _ :: _, [], _, _, h, _ => h.elim
theorem All2.get {α β : Type} {R : α → β → Prop} : ∀ {xs : List α} {ys : List β}, All2 R xs ys → ∀ (i : Nat) (h : i < ys.length), ∃ h' : i < xs.length, R xs[i] ys[i]
  | a :: xs, b :: ys, h, 0, _ => ⟨by simp, h.1⟩
  | a :: xs, b :: ys, h, i + 1, hi => by
    obtain ⟨h', k⟩ := All2.get h.2 i (by simpa using hi)
    exact ⟨by simpa using h', k⟩
  | [], [], _, i, hi => by simp at hi
  | [], _ :: _, h, _, _ => h.elim
  | _ :: _, [], h, _, _ => h.elim
theorem All2.vws {β : Type} {R : AV → β → Prop} {f : β → AV} (hi : ∀ v l, R v l → Vw C v (f l)) : ∀ {vs : List AV} {L : List β}, All2 R vs L → Vws C vs (L.map f)
  | [], [], _ => .nil
  | _ :: _, _ :: _, h => .cons (hi _ _ h.1) (All2.vws hi h.2)
  | [], _ :: _, h => h.elim
  | _ :: _, [], h => h.elim
/-- A row of whole numbers of its own. -/
def RsV (e : TypeId) (k : IntKind) (C : Heap) (v : AV) (l : List Nat) : Prop := ∃ g, v = .own g 0 l.length ∧ C g = some (.irow e k (ints l))
section
variable {e : TypeId} {k : IntKind} {v : AV} {l : List Nat}
theorem RsV.vw (h : RsV e k C v l) : Vw C v (.isl k (ints l)) := by
  obtain ⟨g, rfl, hg⟩ := h; exact vw_irow hg (by simp)
theorem RsV.mono (h : RsV e k B v l) (hs : B.Sub C) : RsV e k C v l := by
  obtain ⟨g, rfl, hg⟩ := h; exact ⟨g, rfl, hs _ _ hg⟩
/-- Whatever becomes of the rest. -/
theorem RsV.keep (h : RsV e k B v l) (hs : ∀ x l, B x = some (.irow e k l) → C x = some (.irow e k l)) : RsV e k C v l := by
  obtain ⟨g, rfl, hg⟩ := h; exact ⟨g, rfl, hs _ _ hg⟩
theorem RsV.set (h : RsV e k B v l) {x : Nat} {c : Cont} (hx : ∀ l, B x ≠ some (.irow e k l)) : RsV e k (B.set x c) v l :=
  h.keep fun y l hy => by rw [Heap.set_ne]; exact hy; rintro rfl; exact hx _ hy
theorem RsV.scl (h : RsV e k C v l) : Scl v := by
  obtain ⟨g, rfl, _⟩ := h; exact ⟨rfl, rfl, rfl, rfl, rfl, rfl, rfl⟩
end
/-- Less of the heap is told. -/
theorem SimX.less {f : FuncId} {args : List AV} {K K' : AOut → Heap → Prop} (h : SimX P f args A K) (hk : ∀ o B, K o B → ∃ B', Heap.Sub B' B ∧ K' o B') : SimX P f args A K' :=
  fun E w cargs hR ha => (h E w cargs hR ha).mono fun _ _ ⟨o, A', E', k, r1, r2⟩ => by
    obtain ⟨B', hs, k'⟩ := hk o A' k
    exact ⟨o, B', E', k', r1.sub hs, r2⟩
theorem MakesR.of {f : FuncId} {args : List AV} {e : TypeId} {sz : Nat} {m : List AV} (h : SimX P f args H0 (outK (fun v C => SlR e sz v m H0 C) (fun _ _ => False))) : MakesR P f args e sz m :=
  h.less fun o B ho => by
    cases o with
    | ret v => exact SlR.fin ho
    | pan v => exact ho.elim
theorem MakesS.of {f : FuncId} {args : List AV} {e : TypeId} {k : IntKind} {l : List Int} (h : SimX P f args H0 (outK (fun v C => SlS e k v l H0 C) (fun _ _ => False))) : MakesS P f args e k l :=
  h.less fun o B ho => by
    cases o with
    | ret v => exact SlS.fin ho
    | pan v => exact ho.elim
theorem MakesP.of {f : FuncId} {args : List AV} {F : AV → AV} {e : TypeId} {k : IntKind} {l : List Int} (h : SimX P f args H0 (outK (fun v C => ∃ u, v = F u ∧ SlS e k u l H0 C) (fun _ _ => False))) : MakesP P f args F e k l :=
  h.less fun o B ho => by
    cases o with
    | ret v => obtain ⟨u, rfl, hu⟩ := ho; exact SlS_finP hu
    | pan v => exact ho.elim
/-- What of a heap leads nowhere into memory that is held still. -/
def Heap.pure (B : Heap) : Heap := fun g => match B g with
  | some c => if c.noF then some c else none
  | none => none
theorem pure_sub {B : Heap} : B.pure.Sub B := fun g c h => by
  simp only [Heap.pure] at h
  split at h
  · rename_i c' hc
    split at h
    · injection h with h; subst h; exact hc
    · cases h
  · cases h
theorem pure_noF {B : Heap} {g : Nat} {c : Cont} (h : B.pure g = some c) : c.noF = true := by
  simp only [Heap.pure] at h
  split at h
  · split at h
    · rename_i hn; injection h with h; subst h; exact hn
    · cases h
  · cases h
theorem pure_of {B : Heap} {g : Nat} {c : Cont} (h : B g = some c) (hn : c.noF = true) : B.pure g = some c := by simp only [Heap.pure, h, hn, if_true]
/-- A callee is told alone; of what it leaves, what is pure joins. -/
theorem SimX.alone {f : FuncId} {args args' : List AV} {Q K : AOut → Heap → Prop} (h : SimX P f args' H0 Q) (hv : VwL A args args') (hn : ∀ o B, Q o B → o.noF = true)
    (hk : ∀ o B C, Q o B → A.Sub C → (∀ g c, B g = some c → c.noF = true → A g = none ∧ C g = some c) → K o C) : SimX P f args A K := by
  have h' : SimX P f args' H0 (fun o B => ∃ B', Q o B' ∧ B = B'.pure) := h.less fun o B hq => ⟨B.pure, pure_sub, B, hq, rfl⟩
  refine SimX.view h' hv (fun o B ⟨B', hq, e⟩ => ⟨hn o B' hq, fun g c hc => by subst e; exact pure_noF hc⟩) fun o B ⟨B', hq, e⟩ hd => ?_
  subst e
  refine hk o B' _ hq (fun g c hg => by simp only [Heap.join, hg]) fun g c hg hc => ?_
  have hp := pure_of hg hc
  exact ⟨hd g c hp, by simp only [Heap.join, hd g c hp]; exact hp⟩
theorem SlR.setv {e : TypeId} {sz : Nat} {v : AV} {m : List AV} {g : Nat} {c c' : Cont} (h : SlR e sz v m A B) (hA : A g = none) (hB : B g = some c) (hc : ∀ l, c ≠ .row e sz l) : SlR e sz v m A (B.set g c') := h.set hA (h.ne hB hc)
attribute [-simp] szOK aslc
section
variable {D : Heap} {e : TypeId}
/-- A slice of bytes of any kind. -/
def BsV (e : TypeId) (C : Heap) (v : AV) (l : List Nat) : Prop := (v = .nilS ∧ l = []) ∨ v = .isl .u8 (ints l) ∨ ∃ g i n L, v = .own g i n ∧ C g = some (.irow e .u8 (ints L)) ∧ i + n ≤ L.length ∧ l = (L.drop i).take n
theorem BsV.isl (l : List Nat) : BsV e C (.isl .u8 (ints l)) l := .inr (.inl rfl)
theorem BsV.row {g n : Nat} {l : List Nat} (h : C g = some (.irow e .u8 (ints l))) (hn : n = l.length) : BsV e C (.own g 0 n) l := .inr (.inr ⟨g, 0, n, l, rfl, h, by omega, by subst hn; simp⟩)
theorem BsV.mono {v : AV} {l : List Nat} (h : BsV e B v l) (hs : B.Sub C) : BsV e C v l := h.imp id fun h => h.imp id fun ⟨g, i, n, L, h1, h2, h3⟩ => ⟨g, i, n, L, h1, hs _ _ h2, h3⟩
structure Scb (v : AV) : Prop where
  agg : v.isAgg = false
  good : AVL.good v = true
  comps : AVL.comps v = [v]
  st : v.st = true
  size : v.size = 1
  shp : AVL.shp .sc [v] = some v
theorem BsV.scb {v : AV} {l : List Nat} (h : BsV e C v l) : Scb v := by
  rcases h with ⟨rfl, _⟩ | rfl | ⟨g, i, n, L, rfl, _⟩ <;> exact ⟨rfl, rfl, rfl, rfl, rfl, rfl⟩
theorem BsV.vw {v : AV} {l : List Nat} (h : BsV e C v l) : Vw C v (.isl .u8 (ints l)) := by
  rcases h with ⟨rfl, rfl⟩ | rfl | ⟨g, i, n, L, rfl, h1, h2, rfl⟩
  · exact .nil .u8
  · exact .refl _
  · have := Vw.own (A := C) (i := i) (n := n) h1 (by simpa using h2)
    rwa [ints_drop, ints_take] at this
theorem BsV.len {v : AV} {l : List Nat} (h : BsV e C v l) {F : AV → Prop} : alen false v F = F (.int .i64 l.length) := by
  rcases h with ⟨rfl, rfl⟩ | rfl | ⟨g, i, n, L, rfl, h1, h2, rfl⟩
  · simp
  · simp
  · have : ((L.drop i).take n).length = n := by simp; omega
    rw [this]; simp
theorem BsV.src {v : AV} {l : List Nat} (h : BsV e C v l) : ∀ Q : List Int → Prop, Q (ints l) → srcI .u8 v C Q := by
  intro Q hQ
  rcases h with ⟨rfl, rfl⟩ | rfl | ⟨g, i, n, L, rfl, h1, h2, rfl⟩
  · exact hQ
  · exact ⟨rfl, hQ⟩
  · simp only [srcI, h1]
    exact ⟨trivial, by simpa using h2, by rw [ints_drop, ints_take]; exact hQ⟩
theorem BsV.szOK {v : AV} {l : List Nat} (h : BsV e D v l) (hs : D.Sub C) : AVL.szOK 1 v C := by
  rcases h with ⟨rfl, rfl⟩ | rfl | ⟨g, i, n, L, rfl, h1, h2, rfl⟩
  · trivial
  · rfl
  · simp only [AVL.szOK, hs _ _ h1]
theorem BsV.slc {v : AV} {l : List Nat} {lo hi : Nat} {olo ohi : Option AV} (h : BsV e D v l) (hs : D.Sub C) (h1 : lo ≤ hi) (h2 : hi ≤ l.length) (ho1 : ∀ Q : Int → Prop, Q lo → bnd olo 0 Q) (ho2 : ∀ Q : Int → Prop, Q hi → bnd ohi l.length Q) {K : AV → Heap → Prop} (hk : ∀ v', BsV e D v' ((l.drop lo).take (hi - lo)) → K v' C) : aslc v olo ohi C K := by
  rcases h with ⟨rfl, rfl⟩ | rfl | ⟨g, i, n, L, rfl, g1, g2, rfl⟩
  · simp only [List.length_nil, Nat.le_zero] at h2
    subst h2
    have : lo = 0 := by omega
    subst this
    simp only [aslc]
    refine ho1 _ (ho2 _ ⟨rfl, rfl, hk _ (.inl ⟨rfl, by simp⟩)⟩)
  · simp only [aslc, ints_length]
    refine ho1 _ (ho2 _ ⟨by omega, by omega, by omega, ?_⟩)
    have := hk (.isl .u8 (ints ((l.drop lo).take (hi - lo)))) (.isl _)
    simpa using this
  · have hl : ((L.drop i).take n).length = n := by simp; omega
    rw [hl] at h2 ho2
    simp only [aslc]
    refine ho1 _ (ho2 _ ⟨by omega, by omega, by omega, ?_⟩)
    refine hk _ (.inr (.inr ⟨g, i + lo, hi - lo, L, by simp, g1, by omega, ?_⟩))
    rw [List.drop_take, List.drop_drop, List.take_take]
    congr 1; omega
theorem sts_all {β : Type} {R : AV → β → Prop} (hR : ∀ v l, R v l → v.st = true) : ∀ {vs : List AV} {L : List β}, All2 R vs L → AV.sts vs = true
  | [], [], _ => rfl
  | v :: vs, l :: L, h => by simp [AV.sts, hR _ _ h.1, sts_all hR h.2]
  | [], _ :: _, h => h.elim
  | _ :: _, [], h => h.elim
end
section
/-- A row of anything, or nil. -/
def RowAt (e : TypeId) (sz : Nat) (r : AV) (vs : List AV) (E : Heap) : Prop := (r = .nilS ∧ vs = []) ∨ ∃ g, r = .own g 0 vs.length ∧ E g = some (.row e sz vs)
theorem RowAt.len {e : TypeId} {sz : Nat} {r : AV} {vs : List AV} (h : RowAt e sz r vs B) {F : AV → Prop} : alen false r F = F (.int .i64 vs.length) := by
  rcases h with ⟨rfl, rfl⟩ | ⟨g, rfl, _⟩ <;> simp
theorem RowAt.scl {e : TypeId} {sz : Nat} {r : AV} {vs : List AV} (h : RowAt e sz r vs B) : Scl r := by
  rcases h with ⟨rfl, _⟩ | ⟨g, rfl, _⟩ <;> exact ⟨rfl, rfl, rfl, rfl, rfl, rfl, rfl⟩
theorem RowAt.keep {e : TypeId} {sz : Nat} {r : AV} {vs : List AV} (h : RowAt e sz r vs B) (hs : ∀ x l, B x = some (.row e sz l) → C x = some (.row e sz l)) : RowAt e sz r vs C := h.imp id fun ⟨g, h1, h2⟩ => ⟨g, h1, hs _ _ h2⟩
theorem RowAt.pos {e : TypeId} {sz : Nat} {r : AV} {vs : List AV} (h : RowAt e sz r vs B) (hp : 0 < vs.length) : ∃ g, r = .own g 0 vs.length ∧ B g = some (.row e sz vs) := by
  rcases h with ⟨_, rfl⟩ | h
  · simp at hp
  · exact h
theorem SlR.rowAt {e : TypeId} {sz : Nat} {r : AV} {vs : List AV} (h : SlR e sz r vs A B) : RowAt e sz r vs B := h.own.imp id fun ⟨g, h1, _, h3⟩ => ⟨g, h1, h3⟩
theorem BsV0 {e : TypeId} {v : AV} {l : List Nat} (h : BsV e H0 v l) : v = .nilS ∧ l = [] ∨ v = .isl .u8 (ints l) := by
  rcases h with h | h | ⟨g, i, n, L, _, h, _⟩
  · exact .inl h
  · exact .inr h
  · cases h
end
end
end AVL
