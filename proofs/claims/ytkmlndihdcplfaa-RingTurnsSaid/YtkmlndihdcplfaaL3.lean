/- Texts of this claim, in order: Vo. -/
import Derived.Test.YtkmlndihdcplfaaL2
import Derived.RangeFuncIn
/- Code and functions. -/
namespace AVL
open Go
set_option linter.unusedSimpArgs false
set_option linter.unusedVariables false

inductive AEx where
  | normal
  | exit (id : Nat)
  | ret
  | pan (v : AV)
abbrev APost := AEx → AEnv → Heap → Prop

inductive ACode where
  | skip
  | region (ops : List AOper)
  | regionD (ds : List DOp)
  | regionA (ops : List (AOper × List Nat))
  | seq (a b : ACode)
  | cond (c : AO) (x y : ACode)
  | block (id : Nat) (c : ACode)
  | loop (c : ACode)
  | exit (id : Nat)
  | ret
  | rangeF (n : Nat) (f : AO) (ps : List Nat) (asg body : Code)

def awOps (P : Program) : List AOper → (AEnv → Heap → Prop) → (AV → AEnv → Heap → Prop) → AEnv → Heap → Prop
  | [], K, _, env, A => K env A
  | o :: r, K, Kp, env, A => match o.g with
    | none => aop P o.op env A (fun v A' => awOps P r K Kp (put env o.dst v) A') (fun v A' => Kp v env A')
    | some (s, want) => match env s with
      | .bool b => (b = want → aop P o.op (upd env s (.bool want)) A (fun v A' => awOps P r K Kp (put (upd env s (.bool want)) o.dst v) A') (fun v A' => Kp v (upd env s (.bool want)) A')) ∧
          (b = !want → awOps P r K Kp (put (upd env s (.bool !want)) o.dst .undef) A)
      | .undef => awOps P r K Kp (put env o.dst .undef) A
      | _ => False

def AEx.then (next : AEnv → Heap → Prop) (K : APost) : APost
  | .normal, env, A => next env A
  | e, env, A => K e env A
def AEx.inBlock (id : Nat) (K : APost) : APost
  | .exit id', env, A => if id' = id then K .normal env A else K (.exit id') env A
  | e, env, A => K e env A
def aw (P : Program) : ACode → APost → AEnv → Heap → Prop
  | .skip, K, env, A => K .normal env A
  | .region ops, K, env, A => awOps P ops (K .normal) (fun v => K (.pan v)) env A
  | .regionD ds, K, env, A => awD P ds (K .normal) (fun v A => ∀ env' : AEnv, K (.pan v) env' A) env A
  | .regionA ds, K, env, A => awA P ds (K .normal) (fun v A => ∀ env' : AEnv, K (.pan v) env' A) env A
  | .seq x y, K, env, A => aw P x (AEx.then (aw P y K) K) env A
  | .cond c x y, K, env, A => match ev env c with
    | .bool b => (b = true → aw P x K env A) ∧ (b = false → aw P y K env A)
    | _ => False
  | .block id c, K, env, A => aw P c (AEx.inBlock id K) env A
  | .loop c, K, env, A => ∃ (S : Type) (I : S → AEnv → Heap → Prop) (μ : S → Nat) (s : S), (∃ B : Heap, B.Sub A ∧ I s env B) ∧
      ∀ s env B, I s env B → aw P c (AEx.then (fun env' A' => ∃ s' B', Heap.Sub B' A' ∧ I s' env' B' ∧ μ s' < μ s) K) env B
  | .exit id, K, env, A => K (.exit id) env A
  | .ret, K, env, A => K .ret env A
  | .rangeF n f ps asg body, K, env, A => match ev env f with
    | .func (.func k) first cap => callable P k = true ∧ ∀ g, A g = none → SimX P k (first ++ [.func (.yield g) [] []] ++ cap) (A.set g (.lp ((List.range n).map env) ps asg body .ready)) fun o B => match o with
      | .ret _ => match B g with
        | some (.lp _ _ _ _ .ready) => K .normal env (B.del g)
        | some (.lp _ _ _ _ (.done .ret)) => K .ret env (B.del g)
        | some (.lp _ _ _ _ (.done (.exit id))) => K (.exit id) env (B.del g)
        | _ => False
      | .pan v => K (.pan v) env B
    | _ => False

def trC (P : Program) (n : Nat) : Code → Option ACode
  | .skip => some .skip
  | .region _ ops false => (trOpers P n ops ops.toList).map .region
  | .region _ ops true => if P.follows .mixedOrders = true then (match trD P n ops with
    | some ds => some (.regionD ds)
    | none => (trA P n ops).map .regionA) else none
  | .seq a b => match trC P n a, trC P n b with
    | some x, some y => some (.seq x y)
    | _, _ => none
  | .cond c x y => match trO c, trC P n x, trC P n y with
    | some a, some x, some y => some (.cond a x y)
    | _, _, _ => none
  | .block id c => (trC P n c).map (.block id)
  | .loop c => (trC P n c).map .loop
  | .exit id => some (.exit id)
  | .ret => some .ret
  | .rangeFunc f ps asg body => (trO f).map fun f => .rangeF n f ps.toList asg body
  | .scope c => trC P n c
  | .label _ => some .skip
  | _ => none
/-- Has it a range over a function? -/
def hasRF : Code → Bool
  | .seq a b | .cond _ a b => hasRF a || hasRF b
  | .block _ c | .loop c | .scope c => hasRF c
  | .rangeFunc .. => true
  | _ => false

/-- The ranges over functions of a code, in their order. -/
def rfs : Code → List (Code × Code)
  | .seq a b | .cond _ a b => rfs a ++ rfs b
  | .block _ c | .loop c | .scope c => rfs c
  | .rangeFunc _ _ a b => [(a, b)]
  | _ => []
def rfA (fn : Func) (j : Nat) : Code := match fn.body with
  | some c => ((rfs c).getD j (.skip, .skip)).1
  | none => .skip
def rfB (fn : Func) (j : Nat) : Code := match fn.body with
  | some c => ((rfs c).getD j (.skip, .skip)).2
  | none => .skip

section
variable {P : Program}

/-- How a walk of the machine ends, told by abstract values. -/
def ExR (E : Emb) : AEx → Exit → Prop
  | .normal, e => e = .normal
  | .exit id, e => e = .exit id
  | .ret, e => e = .ret
  | .pan v, e => ∃ c, e = .panic [{ v := c, recovered := false }] ∧ TV E v c
def mark (b : Nat) : Deferred := { target := .collected b, args := #[] }
/-- The blocks of a call's loops, at its end to be looked into. -/
structure Marks (E : Emb) (w0 w : World) (ms : List Nat) : Prop where
  nodup : ms.Nodup
  held : ∀ b ∈ ms, E.H b = some (.deferred (some []))
  new : ∀ b ∈ ms, w0.heap.size ≤ b
  lt : ∀ b ∈ ms, b < w.heap.size
theorem Marks.nil {E : Emb} {w0 w : World} : Marks E w0 w [] := ⟨List.nodup_nil, by simp, by simp, by simp⟩
theorem Marks.app {E0 E1 : Emb} {w0 w1 w2 : World} {ms ns : List Nat} (h : Marks E0 w0 w1 ms) (k : Marks E1 w1 w2 ns) (hE : E0.Le E1) (h0 : w0.heap.size ≤ w1.heap.size) (h1 : w1.heap.size ≤ w2.heap.size) : Marks E1 w0 w2 (ns ++ ms) := by
  refine ⟨List.nodup_append.2 ⟨k.nodup, h.nodup, fun x hx y hy e => ?_⟩, fun b hb => ?_, fun b hb => ?_, fun b hb => ?_⟩
  · subst e; have := k.new x hx; have := h.lt x hy; omega
  · rcases List.mem_append.1 hb with hb | hb
    · exact k.held b hb
    · exact hE.H _ _ (h.held b hb)
  · rcases List.mem_append.1 hb with hb | hb
    · have := k.new b hb; omega
    · exact h.new b hb
  · rcases List.mem_append.1 hb with hb | hb
    · exact k.lt b hb
    · have := h.lt b hb; omega
def Lift (D : List Deferred) (n : Nat) (E0 : Emb) (w0 : World) (m : Bool) (K : APost) : Exit → Act → World → Prop := fun e a w =>
  ∃ ae env A E ms, K ae env A ∧ ExR E ae e ∧ Rep E A w ∧ EnvR E env a ∧ E0.Le E ∧ Same w0 w ∧ a.tmps.size = n ∧ a.defers = ms.map mark ++ D ∧ Marks E w0 w ms ∧ (m = false → ms = [])
theorem Lift.from {D : List Deferred} {ms : List Nat} {n : Nat} {E0 E1 : Emb} {w0 w1 : World} {K : APost} {m m' m2 : Bool} {e : Exit} {a : Act} {w : World} (hE : E0.Le E1) (hS : Same w0 w1) (hM : Marks E1 w0 w1 ms) (hm : m' = false → ms = []) (hmm : m2 = false → m = false ∧ m' = false)
    (h : Lift (ms.map mark ++ D) n E1 w1 m K e a w) : Lift D n E0 w0 m2 K e a w := by
  obtain ⟨ae, env, A, E, ns, h1, h2, h3, h4, h5, h6, h7, h8, h9, h10⟩ := h
  exact ⟨ae, env, A, E, ns ++ ms, h1, h2, h3, h4, hE.trans h5, hS.trans h6, h7, by rw [h8]; simp, hM.app h9 h5 hS.size h6.size, fun e => by rw [h10 (hmm e).1, hm (hmm e).2]; rfl⟩

theorem ops_ok {D : List Deferred} {n : Nat} {ro : Option Nat} (ops : Array Oper) {K : AEnv → Heap → Prop} {Kp : AV → AEnv → Heap → Prop} {Q : Exit → Act → World → Prop} {E0 : Emb} {w0 : World}
    (hK : ∀ env A E a w, K env A → Rep E A w → EnvR E env a → E0.Le E → Same w0 w → a.tmps.size = n → a.defers = D → Q .normal a w)
    (hKp : ∀ v env A E a w c, Kp v env A → Rep E A w → EnvR E env a → E0.Le E → Same w0 w → a.tmps.size = n → a.defers = D → TV E v c → Q (.panic [{ v := c, recovered := false }]) a w) :
    ∀ (m k : Nat) (aops : List AOper), m + k = ops.size → trOpers P n ops (ops.toList.drop m) = some aops → ∀ env A E a w, awOps P aops K Kp env A → Rep E A w → EnvR E env a → E0.Le E → Same w0 w → a.tmps.size = n → a.defers = D →
      wpOpsIn (Fr ro) 0 P ops Q ((List.range k).map (m + ·)) a w := by
  intro m k
  induction k generalizing m with
  | zero =>
    intro aops hm ht env A E a w h hR he hE hS ha hd
    rw [List.drop_of_length_le (by simp; omega)] at ht
    simp only [trOpers] at ht; injection ht with ht; subst ht
    exact hK env A E a w h hR he hE hS ha hd
  | succ k ih =>
    intro aops hm ht env A E a w h hR he hE hS ha hd
    have hlt : m < ops.size := by omega
    rw [List.drop_eq_getElem_cons (by simpa using hlt)] at ht
    simp only [trOpers] at ht
    split at ht
    · rename_i ao l h1 h2
      injection ht with ht; subst ht
      have hrange : (List.range (k + 1)).map (m + ·) = m :: (List.range k).map ((m + 1) + ·) := by
        rw [List.range_succ_eq_map]
        simp only [List.map_cons, Nat.add_zero, List.map_map]
        congr 1
        apply List.map_congr_left
        intro j _
        simp; omega
      rw [hrange]
      simp only [wpOpsIn]
      have hget : ops[m]? = some ops[m] := Array.getElem?_eq_getElem hlt
      rw [hget]
      simp only
      simp only [Array.getElem_toList] at h1
      unfold trOper at h1
      split at h1
      · rename_i aop' g h3 h4
        split at h1
        · rename_i hh
          injection h1 with h1; subst h1
          have next : ∀ (env' : AEnv), EnvR E env' a → aop P aop' env' A (fun v A' => awOps P l K Kp (put env' ops[m].dst v) A') (fun v A' => Kp v env' A') →
              ops[m].wpIn (Fr ro) 0 P a w (wpOpsIn (Fr ro) 0 P ops Q ((List.range k).map ((m + 1) + ·))) Q := by
            intro env' he' h'
            refine oper_ok h3 hR he' h' (fun v A' E' w' c hk hR' hE' hS' hc => ?_) (fun v A' E' w' c hk hR' hE' hS' hc => ?_)
            · obtain ⟨p1, p2, p3⟩ := put_ok (he'.mono hE') ha hh.1 hc
              exact ih (m + 1) l (by omega) h2 _ _ E' _ _ hk hR' p1 (hE.trans hE') (hS.trans hS') p2 (p3.trans hd)
            · exact hKp v env' A' E' a w' c hk hR' (he'.mono hE') (hE.trans hE') (hS.trans hS') ha hd hc
          cases hg0 : ops[m].guard with
          | none =>
            rw [hg0] at h4
            simp only [trGuard] at h4
            injection h4 with h4; subst h4
            simp only [awOps] at h
            have hwant : Region.wanted ops[m] (yielded ops a.tmps) = true := by simp [Region.wanted, hg0]
            rw [if_pos hwant]
            exact next env he h
          | some jw =>
            obtain ⟨j, want⟩ := jw
            rw [hg0] at h4
            simp only [trGuard] at h4
            split at h4
            · rename_i oj hj
              split at h4
              · rename_i d hdst
                injection h4 with h4; subst h4
                simp only [awOps] at h
                split at h
                · rename_i b hb
                  have hsd : d < n := by simpa [inG] using hh.2
                  have hd2 : d < a.tmps.size := by rw [ha]; exact hsd
                  have hy : yielded ops a.tmps j = some b := by
                    have := he d
                    rw [hb] at this
                    simp only [TV_bool] at this
                    rw [Array.getD_eq_getD_getElem?, Array.getElem?_eq_getElem hd2] at this
                    simp only [Option.getD_some] at this
                    simp [yielded, hj, hdst, Array.getElem?_eq_getElem hd2, this]
                  by_cases hbw : b = want
                  · have hwant : Region.wanted ops[m] (yielded ops a.tmps) = true := by simp [Region.wanted, hg0, hy, hbw]
                    rw [if_pos hwant]
                    exact (next _ (upd_same he (by rw [hb, hbw])) (h.1 hbw))
                  · have hwant : ¬ Region.wanted ops[m] (yielded ops a.tmps) = true := by simp [Region.wanted, hg0, hy, hbw]
                    rw [if_neg hwant]
                    have hbn : b = !want := by cases b <;> cases want <;> simp_all
                    obtain ⟨p1, p2, p3⟩ := put_ok (upd_same he (show env d = .bool (!want) by rw [hb, hbn])) ha hh.1 (TV_undef E undef)
                    exact ⟨fun _ _ => trivial, ih (m + 1) l (by omega) h2 _ _ E _ _ (h.2 hbn) hR p1 hE hS p2 (p3.trans hd)⟩
                · rename_i hb
                  have hsd : d < n := by simpa [inG] using hh.2
                  have hd2 : d < a.tmps.size := by rw [ha]; exact hsd
                  have hy : yielded ops a.tmps j = none := by
                    have := he d
                    rw [hb] at this
                    have := TV_undef_eq this
                    rw [Array.getD_eq_getD_getElem?, Array.getElem?_eq_getElem hd2] at this
                    simp only [Option.getD_some] at this
                    simp [yielded, hj, hdst, Array.getElem?_eq_getElem hd2, this, undef]
                  have hwant : ¬ Region.wanted ops[m] (yielded ops a.tmps) = true := by simp [Region.wanted, hg0, hy]
                  rw [if_neg hwant]
                  obtain ⟨p1, p2, p3⟩ := put_ok he ha hh.1 (TV_undef E undef)
                  exact ⟨fun _ _ => trivial, ih (m + 1) l (by omega) h2 _ _ E _ _ h hR p1 hE hS p2 (p3.trans hd)⟩
                · exact h.elim
              · cases h4
            · cases h4
        · cases h1
      · cases h1
    · cases ht

theorem wpIn_loop_ghost {F : Fence} {m : Nat} {c : Code} {Q : Exit → Act → World → Prop} {S : Type} (I : S → Act → World → Prop) (μ : S → Nat) {s₀ : S} {a : Act} {w : World} (h₀ : I s₀ a w)
    (round : ∀ s a w, I s a w → c.wpIn F m P (Exit.then (fun a' w' => ∃ s', I s' a' w' ∧ μ s' < μ s) Q) a w) : (Code.loop c).wpIn F m P Q a w := by
  intro b k cs hro hb hr
  have key : ∀ n s a w, μ s = n → I s a w →
      ∃ e a' w', Q e a' w' ∧ ArrivesIn (Machine.fenced P F) P (lone (b.atR a (.code c :: .inLoop c :: k)) cs w) b k cs e a' w' := by
    intro n
    induction n using Nat.strongRecOn with
    | _ n ih =>
      intro s a w hn hI
      obtain ⟨e, a₁, w₁, hq, harr⟩ := round s a w hI b (.inLoop c :: k) cs hro hb hr
      cases e with
      | normal =>
        obtain ⟨s₁, hI₁, hlt⟩ := hq
        obtain ⟨e₂, a₂, w₂, hq₂, harr₂⟩ := ih (μ s₁) (hn ▸ hlt) s₁ a₁ w₁ rfl hI₁
        exact ⟨e₂, a₂, w₂, hq₂, .of_steps (StepsIn.trans harr (.one (fenced_calm hb hr rfl) stepR_inLoop)) harr₂⟩
      | exit id => exact ⟨_, a₁, w₁, hq, .pass (x := .inLoop c) rfl (fun _ _ => .inl (by simp)) harr⟩
      | goto l => exact ⟨_, a₁, w₁, hq, .pass (x := .inLoop c) rfl (fun _ _ => .inl (by simp)) harr⟩
      | ret => exact ⟨_, a₁, w₁, hq, .pass (x := .inLoop c) rfl (fun _ _ => .inl (by simp)) harr⟩
      | panic ch => exact ⟨_, a₁, w₁, hq, .pass (x := .inLoop c) rfl (fun _ _ => .inl (by simp)) harr⟩
      | outgrown => exact ⟨_, a₁, w₁, hq, .pass (x := .inLoop c) rfl (fun _ _ => .inl (by simp)) harr⟩
  obtain ⟨e, a', w', hq, harr⟩ := key _ s₀ a w rfl h₀
  exact ⟨e, a', w', hq, .of_steps (.one (fenced_calm hb hr rfl) stepR_loop) harr⟩

/-! the record of a loop -/
theorem Rep.holdH {E : Emb} {A : Heap} {w : World} (h : Rep E A w) {b : Nat} {o : Obj} (hb : w.heap[b]? = some o) (hF : E.F b = none) (hA : ∀ g c, A g = some c → ∀ off, (E.loc g).addr ≠ some (b, off)) :
    Rep { E with H := fun x => if x = b then some o else E.H x } A w := by
  refine ⟨h.frm, h.lt, fun g c hg => ?_, h.sep, h.low, h.lon, fun x o' hx => ?_⟩
  · exact RepC_mono0 (E := E) (w := w) (E' := { E with H := fun x => if x = b then some o else E.H x }) ⟨Nat.le_refl _, fun _ _ => rfl, fun _ _ h => h⟩ (h.lt g c hg) (h.cont g c hg) (fun b off ha => (h.blk hg ha).2) fun _ _ _ => rfl
  · simp only at hx
    split at hx
    · rename_i e; subst e; injection hx with hx; subst hx; exact ⟨hb, hF, hA⟩
    · exact h.hid x o' hx
/-- A name's block is let go, whatever it holds then. -/
theorem Rep.free {E : Emb} {A : Heap} {w w' : World} (h : Rep E A w) {g : Nat} {c : Cont} (hg : A g = some c) {b off : Nat} (ha : (E.loc g).addr = some (b, off)) (hw : ∀ x, x ≠ b → w'.heap[x]? = w.heap[x]?) : Rep E (A.del g) w' := by
  have key : ∀ g' x, (A.del g) g' = some x → A g' = some x ∧ g' ≠ g := fun g' x hx => by
    simp only [Heap.del] at hx
    split at hx
    · cases hx
    · rename_i e; exact ⟨hx, e⟩
  refine ⟨fun x o ho => ?_, fun g' x hx => h.lt _ _ (key _ _ hx).1, fun g' x hx => ?_, fun g₁ g₂ c₁ c₂ h₁ h₂ hne => h.sep _ _ _ _ (key _ _ h₁).1 (key _ _ h₂).1 hne, fun g' x hx => h.low _ _ (key _ _ hx).1, h.lon, fun x o ho => ?_⟩
  · have hne : x ≠ b := fun e => by subst e; rw [(h.blk hg ha).2] at ho; cases ho
    rw [hw x hne]; exact h.frm x o ho
  · obtain ⟨hx, e⟩ := key _ _ hx
    refine RepC_mono (Emb.Le.refl E) (h.lt _ _ hx) (h.cont _ _ hx) (fun b' off' ha' => (h.blk hx ha').2) (fun b' off' ha' => hw b' ?_)
    exact fun e' => h.sep _ _ _ _ hx hg e _ _ ha' ha e'
  · have h1 := h.hid x o ho
    have hne : x ≠ b := fun e => by subst e; exact h1.2.2 g c hg off ha
    exact ⟨by rw [hw x hne]; exact h1.1, h1.2.1, fun g' y hy => h1.2.2 _ _ (key _ _ hy).1⟩
theorem TVl_env {E : Emb} {env : AEnv} {a : Act} (he : EnvR E env a) : ∀ (k : Nat) , TVl E ((List.range k).map env) ((List.range k).map fun i => a.tmps.getD i undef) := by
  intro k
  have : ∀ l : List Nat, TVl E (l.map env) (l.map fun i => a.tmps.getD i undef) := by
    intro l
    induction l with
    | nil => exact TVl_nil.2 rfl
    | cons x r ih => exact TVl_cons.2 ⟨_, _, rfl, he x, ih⟩
  exact this _
theorem range_toList (l : Array Value) : (List.range l.size).map (fun i => l.getD i undef) = l.toList := by
  apply List.ext_getElem
  · simp
  · intro i h1 h2
    simp at h1 ⊢
    simp [h1]

/-! a scope without jumps -/
theorem stepR_scopeS {P : Program} {b : Frame} {a : Act} {k : List Item} {cs : List Frame} {w : World} {c : Code} : step P (lone (b.atR a (.code (.scope c) :: k)) cs w) = .next (lone (b.atR a (.code c :: .inScope c :: k)) cs w) :=
  step_lone_go (by simp [stepG, stepG.exec, Frame.atR])
theorem stepR_inScopeS {P : Program} {b : Frame} {a : Act} {k : List Item} {cs : List Frame} {w : World} {c : Code} : step P (lone (b.atR a (.inScope c :: k)) cs w) = .next (lone (b.atR a k) cs w) :=
  step_lone_go (by simp [stepG, stepG.exec, Frame.atR])
theorem wpIn_scopeS {F : Fence} {n : Nat} {P : Program} {Q : Exit → Act → World → Prop} {a : Act} {w : World} {c : Code} (hQ : ∀ l a w, ¬ Q (.goto l) a w) (h : c.wpIn F n P Q a w) : (Code.scope c).wpIn F n P Q a w := by
  intro b k cs hro hb hr
  have h0 : (lone (b.atR a (.code (.scope c) :: k)) cs w).fenced P F := fenced_calm hb hr rfl
  obtain ⟨e, a₁, w₁, hq, harr⟩ := h b (.inScope c :: k) cs hro hb hr
  cases e with
  | normal => exact ⟨.normal, a₁, w₁, hq, .head h0 stepR_scopeS (StepsIn.trans harr (.one (fenced_calm hb hr rfl) stepR_inScopeS))⟩
  | exit id =>
    have hx : exitTo id (.inScope c :: k) = exitTo id k := by simp [exitTo]
    exact ⟨.exit id, a₁, w₁, hq, fun k' hk => .head h0 stepR_scopeS (harr.1 k' (by rw [hx]; exact hk)),
      fun hr' hk => let ⟨k₁, h1, h2⟩ := harr.2 hr' (by rw [hx]; exact hk); ⟨k₁, h1, .head h0 stepR_scopeS h2⟩⟩
  | goto l => exact absurd hq (hQ l a₁ w₁)
  | ret => exact ⟨_, a₁, w₁, hq, .of_steps (.one h0 stepR_scopeS) harr⟩
  | panic ch => exact ⟨_, a₁, w₁, hq, .of_steps (.one h0 stepR_scopeS) harr⟩
  | outgrown => exact ⟨_, a₁, w₁, hq, .of_steps (.one h0 stepR_scopeS) harr⟩
theorem aw_ok {n : Nat} {ro : Option Nat} : ∀ (c : Code) (ac : ACode), trC P n c = some ac → (ro ≠ none → hasRF c = false) → ∀ (K : APost) env A, aw P ac K env A → ∀ (D : List Deferred) E a w, Rep E A w → EnvR E env a → a.tmps.size = n → a.defers = D → c.wpIn (Fr ro) 0 P (Lift D n E w (hasRF c) K) a w
  | .skip, ac, ht, hrf, K, env, A, h, D, E, a, w, hR, he, ha, hd => by
    simp only [trC] at ht; injection ht with ht; subst ht
    exact wpIn_skip ⟨.normal, env, A, E, [], h, rfl, hR, he, Emb.Le.refl E, Same.refl w, ha, hd, .nil, fun _ => rfl⟩
  | .exit id, ac, ht, hrf, K, env, A, h, D, E, a, w, hR, he, ha, hd => by
    simp only [trC] at ht; injection ht with ht; subst ht
    exact wpIn_exit ⟨.exit id, env, A, E, [], h, rfl, hR, he, Emb.Le.refl E, Same.refl w, ha, hd, .nil, fun _ => rfl⟩
  | .ret, ac, ht, hrf, K, env, A, h, D, E, a, w, hR, he, ha, hd => by
    simp only [trC] at ht; injection ht with ht; subst ht
    exact wpIn_ret ⟨.ret, env, A, E, [], h, rfl, hR, he, Emb.Le.refl E, Same.refl w, ha, hd, .nil, fun _ => rfl⟩
  | .region id ops draw, ac, ht, hrf, K, env, A, h, D, E, a, w, hR, he, ha, hd => by
    cases draw with
    | true =>
      simp only [trC] at ht
      split at ht
      · rename_i hm
        have hR' : Rep E A { w with drawn := w.drawn + 1 } := ⟨hR.frm, hR.lt, fun g c hg => (by have := hR.cont g c hg; cases c <;> exact this), hR.sep, hR.low, hR.lon, hR.hid⟩
        have hS' : Same w { w with drawn := w.drawn + 1 } := ⟨rfl, rfl, Nat.le_refl _⟩
        split at ht
        · rename_i ds ho
          injection ht with ht; subst ht
          exact trD_ok (ro := ro) (Q := Lift D n E w _ K) (E0 := E) (w0 := w) hm ho
            (fun env A E' a w' hk hR he hE hS ha hd => ⟨.normal, env, A, E', [], hk, rfl, hR, he, hE, hS, ha, hd, .nil, fun _ => rfl⟩)
            (fun v env A E' a w' c hk hR he hE hS ha hd hc => ⟨.pan v, env, A, E', [], hk env, ⟨c, rfl, hc⟩, hR, he, hE, hS, ha, hd, .nil, fun _ => rfl⟩)
            h hR' he (Emb.Le.refl E) hS' ha hd
        · obtain ⟨ds, ho, rfl⟩ := opt_map ht
          exact trA_ok (ro := ro) (Q := Lift D n E w _ K) (E0 := E) (w0 := w) hm ho
            (fun env A E' a w' hk hR he hE hS ha hd => ⟨.normal, env, A, E', [], hk, rfl, hR, he, hE, hS, ha, hd, .nil, fun _ => rfl⟩)
            (fun v env A E' a w' c hk hR he hE hS ha hd hc => ⟨.pan v, env, A, E', [], hk env, ⟨c, rfl, hc⟩, hR, he, hE, hS, ha, hd, .nil, fun _ => rfl⟩)
            h hR' he (Emb.Le.refl E) hS' ha hd
      · cases ht
    | false =>
      simp only [trC] at ht
      obtain ⟨aops, ho, rfl⟩ := opt_map ht
      refine wpIn_region ?_
      have := ops_ok (P := P) (n := n) (ro := ro) ops (K := K .normal) (Kp := fun v => K (.pan v)) (Q := Lift D n E w (hasRF (.region id ops false)) K) (E0 := E) (w0 := w)
        (fun env A E' a w' hk hR he hE hS ha hd => ⟨.normal, env, A, E', [], hk, rfl, hR, he, hE, hS, ha, hd, .nil, fun _ => rfl⟩)
        (fun v env A E' a w' c hk hR he hE hS ha hd hc => ⟨.pan v, env, A, E', [], hk, ⟨c, rfl, hc⟩, hR, he, hE, hS, ha, hd, .nil, fun _ => rfl⟩)
        0 ops.size aops (by omega) (by simpa using ho) env A E a w h hR he (Emb.Le.refl E) (Same.refl w) ha hd
      simp only [Nat.zero_add, List.map_id'] at this
      exact this
  | .seq x y, ac, ht, hrf, K, env, A, h, D, E, a, w, hR, he, ha, hd => by
    simp only [trC] at ht
    have rx : ro ≠ none → hasRF x = false := fun e => by have := hrf e; simp [hasRF] at this; exact this.1
    have ry : ro ≠ none → hasRF y = false := fun e => by have := hrf e; simp [hasRF] at this; exact this.2
    have mx : hasRF (.seq x y) = false → hasRF x = false := fun e => by simp [hasRF] at e; exact e.1
    split at ht
    · rename_i ax ay h1 h2
      injection ht with ht; subst ht
      refine wpIn_seq (wpIn_mono (aw_ok x ax h1 rx _ env A h D E a w hR he ha hd) ?_)
      rintro e a' w' ⟨ae, env', A', E', ms, hk, hx, hR', he', hE, hS, ha', hd', hM, hm⟩
      cases ae with
      | normal =>
        cases hx
        exact wpIn_mono (aw_ok y ay h2 ry K env' A' hk _ E' a' w' hR' he' ha' hd') (fun _ _ _ hl => hl.from hE hS hM hm (fun e => by simp [hasRF] at e; exact ⟨e.2, e.1⟩))
      | exit id => cases hx; exact ⟨.exit id, env', A', E', ms, hk, rfl, hR', he', hE, hS, ha', hd', hM, fun e => hm (mx e)⟩
      | ret => cases hx; exact ⟨.ret, env', A', E', ms, hk, rfl, hR', he', hE, hS, ha', hd', hM, fun e => hm (mx e)⟩
      | pan v => obtain ⟨c, rfl, hc⟩ := hx; exact ⟨.pan v, env', A', E', ms, hk, ⟨c, rfl, hc⟩, hR', he', hE, hS, ha', hd', hM, fun e => hm (mx e)⟩
    · cases ht
  | .cond c x y, ac, ht, hrf, K, env, A, h, D, E, a, w, hR, he, ha, hd => by
    simp only [trC] at ht
    have rx : ro ≠ none → hasRF x = false := fun e => by have := hrf e; simp [hasRF] at this; exact this.1
    have ry : ro ≠ none → hasRF y = false := fun e => by have := hrf e; simp [hasRF] at this; exact this.2
    split at ht
    · rename_i cc ax ay h0 h1 h2
      injection ht with ht; subst ht
      simp only [aw] at h
      split at h
      · rename_i b hb
        have hc := ev_ok he h0
        rw [hb] at hc
        simp only [TV_bool] at hc
        refine wpIn_cond_split hc (fun e => wpIn_mono (aw_ok x ax h1 rx K env A (h.1 e) D E a w hR he ha hd) ?_) (fun e => wpIn_mono (aw_ok y ay h2 ry K env A (h.2 e) D E a w hR he ha hd) ?_)
        · rintro e a' w' ⟨ae, env', A', E', ms, q1, q2, q3, q4, q5, q6, q7, q8, q9, q10⟩
          exact ⟨ae, env', A', E', ms, q1, q2, q3, q4, q5, q6, q7, q8, q9, fun e => q10 (by simp [hasRF] at e; exact e.1)⟩
        · rintro e a' w' ⟨ae, env', A', E', ms, q1, q2, q3, q4, q5, q6, q7, q8, q9, q10⟩
          exact ⟨ae, env', A', E', ms, q1, q2, q3, q4, q5, q6, q7, q8, q9, fun e => q10 (by simp [hasRF] at e; exact e.2)⟩
      · exact h.elim
    · cases ht
  | .block id c, ac, ht, hrf, K, env, A, h, D, E, a, w, hR, he, ha, hd => by
    simp only [trC] at ht
    obtain ⟨ax, hx, rfl⟩ := opt_map ht
    refine wpIn_block (wpIn_mono (aw_ok c ax hx hrf _ env A h D E a w hR he ha hd) ?_)
    rintro e a' w' ⟨ae, env', A', E', ms, hk, hx, hR', he', hE, hS, ha', hd', hM, hm⟩
    cases ae with
    | normal => cases hx; exact ⟨.normal, env', A', E', ms, hk, rfl, hR', he', hE, hS, ha', hd', hM, hm⟩
    | exit id' =>
      cases hx
      simp only [Exit.inBlock, AEx.inBlock] at hk ⊢
      split
      · rename_i e; rw [if_pos e] at hk; exact ⟨.normal, env', A', E', ms, hk, rfl, hR', he', hE, hS, ha', hd', hM, hm⟩
      · rename_i e; rw [if_neg e] at hk; exact ⟨.exit id', env', A', E', ms, hk, rfl, hR', he', hE, hS, ha', hd', hM, hm⟩
    | ret => cases hx; exact ⟨.ret, env', A', E', ms, hk, rfl, hR', he', hE, hS, ha', hd', hM, hm⟩
    | pan v => obtain ⟨c, rfl, hc⟩ := hx; exact ⟨.pan v, env', A', E', ms, hk, ⟨c, rfl, hc⟩, hR', he', hE, hS, ha', hd', hM, hm⟩
  | .loop c, ac, ht, hrf, K, env, A, h, D, E, a, w, hR, he, ha, hd => by
    simp only [trC] at ht
    obtain ⟨ax, hx, rfl⟩ := opt_map ht
    obtain ⟨S, I, μ, s, ⟨B0, hB0, hI⟩, hround⟩ := h
    refine wpIn_loop_ghost (S := S) (fun s a w' => ∃ env A E' ms, I s env A ∧ Rep E' A w' ∧ EnvR E' env a ∧ E.Le E' ∧ Same w w' ∧ a.tmps.size = n ∧ a.defers = ms.map mark ++ D ∧ Marks E' w w' ms ∧ (hasRF c = false → ms = [])) μ (s₀ := s)
      ⟨env, B0, E, [], hI, hR.sub hB0, he, Emb.Le.refl E, Same.refl w, ha, by simpa using hd, .nil, fun _ => rfl⟩ ?_
    rintro s a1 w1 ⟨env1, A1, E1, ms1, hI1, hR1, he1, hE1, hS1, ha1, hd1, hM1, hm1⟩
    refine wpIn_mono (aw_ok c ax hx hrf _ env1 A1 (hround s env1 A1 hI1) _ E1 a1 w1 hR1 he1 ha1 hd1) ?_
    rintro e a' w' hl
    obtain ⟨ae, env', A', E', ms, hk, hx, hR', he', hE, hS, ha', hd', hM, hm⟩ := hl.from hE1 hS1 hM1 hm1 (m2 := hasRF c) (fun e => ⟨e, e⟩)
    cases ae with
    | normal =>
      cases hx
      obtain ⟨s', B', hB', hI', hlt⟩ := hk
      exact ⟨s', ⟨env', B', E', ms, hI', hR'.sub hB', he', hE, hS, ha', hd', hM, hm⟩, hlt⟩
    | exit id => cases hx; exact ⟨.exit id, env', A', E', ms, hk, rfl, hR', he', hE, hS, ha', hd', hM, hm⟩
    | ret => cases hx; exact ⟨.ret, env', A', E', ms, hk, rfl, hR', he', hE, hS, ha', hd', hM, hm⟩
    | pan v => obtain ⟨c, rfl, hc⟩ := hx; exact ⟨.pan v, env', A', E', ms, hk, ⟨c, rfl, hc⟩, hR', he', hE, hS, ha', hd', hM, hm⟩
  | .rangeFunc f ps asg body, ac, ht, hrf, K, env, A, h, D, E, a, w, hR, he, ha, hd => by
    have hro : ro = none := by
      cases ro with
      | none => rfl
      | some l => have := hrf (by simp); simp [hasRF] at this
    subst hro
    simp only [trC] at ht
    obtain ⟨f', hf', rfl⟩ := opt_map ht
    simp only [aw] at h
    split at h
    · rename_i k first cap hx
      obtain ⟨hcl, h⟩ := h
      have hcx := ev_ok he hf'
      rw [hx] at hcx
      obtain ⟨xs, ys, ⟨k', hk', hv⟩, h1, h2⟩ := TV_func.1 hcx
      simp only [Emb.fn] at hk'; injection hk' with hk'; subst hk'
      -- the two blocks
      have hn1 : ∀ E1 : Emb, ∀ A1 : Heap, ∀ w1 : World, Rep E1 A1 w1 → E1.F w1.heap.size = none := fun E1 A1 w1 h1 => by
        cases hF : E1.F w1.heap.size with
        | none => rfl
        | some o => exact absurd (Array.getElem?_eq_some_iff.1 (h1.frm _ _ hF)).1 (Nat.lt_irrefl _)
      have hFw := hn1 E A w hR
      have hR1 : Rep E A (w.alloc (.deferred (some []))) := hR.grow fun b hb => by rw [heap_alloc_eq, if_neg (by omega)]
      have hHn : E.H w.heap.size = none := by
        cases hH : E.H w.heap.size with
        | none => rfl
        | some o => exact absurd (Array.getElem?_eq_some_iff.1 (hR.hid _ _ hH).1).1 (Nat.lt_irrefl _)
      have hR2 := hR1.holdH (b := w.heap.size) (o := .deferred (some [])) (by rw [heap_alloc_eq, if_pos rfl]) hFw fun g c hg off hadr => by
        have := (hR.blk hg hadr).1; omega
      obtain ⟨E2, hE2⟩ : ∃ E2 : Emb, { E with H := fun x => if x = w.heap.size then some (.deferred (some [])) else E.H x } = E2 := ⟨_, rfl⟩
      rw [hE2] at hR2
      have le2 : E.Le E2 := by
        rw [← hE2]
        refine ⟨Nat.le_refl _, fun _ _ => rfl, fun _ _ h => h, rfl, fun b o hb => ?_⟩
        have : b ≠ w.heap.size := fun e => by rw [e, hHn] at hb; cases hb
        simp only [if_neg this]; exact hb
      have hH2 : E2.H w.heap.size = some (.deferred (some [])) := by rw [← hE2]; simp
      obtain ⟨w1, hw1⟩ : ∃ w1, w.alloc (.deferred (some [])) = w1 := ⟨_, rfl⟩
      have hsz1 : w1.heap.size = w.heap.size + 1 := by rw [← hw1]; simp
      rw [hw1] at hR2
      refine wpIn_rangeFunc fun fn _ => ?_
      obtain ⟨rc, hrc⟩ : ∃ rc : Go.Loop, rc = { state := .ready, pending := none, fn, tmps := a.tmps, params := ps, assign := asg, body, defers := w.heap.size } := ⟨_, rfl⟩
      have hent : (Instr.enterLoop fn a.tmps ps asg body (Fr none).round).run P w = .ok (w.heap.size + 1, [mark w.heap.size]) (w1.alloc (.loop rc)) := by
        rw [← hw1, hrc]; exact run_enterLoop_outer fn a.tmps ps asg body
      obtain ⟨w2, hw2⟩ : ∃ w2, w1.alloc (.loop rc) = w2 := ⟨_, rfl⟩
      -- the record's name
      have hF1 := hn1 E2 A w1 hR2
      have hpl := E2.push_le ⟨some (w1.heap.size, 0), 1, 0⟩
      have hTe : TVl (E2.push ⟨some (w1.heap.size, 0), 1, 0⟩) ((List.range n).map env) rc.tmps.toList := by
        have := TVl_env (he.mono (le2.trans hpl)) n
        rw [hrc]
        rw [← ha] at this ⊢
        rw [range_toList] at this
        exact this
      have hR3 := hR2.alloc (.loop rc) ⟨some (w1.heap.size, 0), 1, 0⟩ 0 rfl (.lp ((List.range n).map env) ps.toList asg body .ready)
        ⟨w1.heap.size, rc, by rw [Emb.push_loc], hF1, by rw [heap_alloc_eq, if_pos rfl], hTe, by rw [hrc], by rw [hrc], by rw [hrc], by rw [hrc]; rfl, by rw [hrc]; rfl⟩
      obtain ⟨E3, hE3⟩ : ∃ E3, E2.push ⟨some (w1.heap.size, 0), 1, 0⟩ = E3 := ⟨_, rfl⟩
      rw [hE3] at hpl hR3
      rw [hw2] at hR3
      have haddr : (E3.loc E2.N).addr = some (w1.heap.size, 0) := by rw [← hE3, Emb.push_loc]
      have hN3 : E2.N < E3.N := by rw [← hE3]; exact Nat.lt_succ_self _
      have hA0 : A E2.N = none := hR2.fresh
      have hyl : TV E3 (.func (.yield E2.N) [] []) (.func (.yield w1.heap.size) #[] #[]) := TV_func.2 ⟨#[], #[], ⟨.yield w1.heap.size, by simp only [Emb.fn, haddr, if_pos hN3], rfl⟩, TVl_nil.2 rfl, TVl_nil.2 rfl⟩
      have hS2 : Same w w2 := ⟨by rw [← hw2, ← hw1]; rfl, by rw [← hw2, ← hw1]; rfl, by rw [← hw2, ← hw1]; simp only [World.size_alloc]; omega⟩
      unfold callable at hcl
      split at hcl
      case h_2 => cases hcl
      rename_i gf hgf
      simp only [Bool.and_eq_true] at hcl
      have hbody : ¬ gf.body = none := by
        intro e; rw [e] at hcl; simp at hcl
      have hname : ¬ gf.name = "runtime.NumGoroutine" := by simpa using hcl.2
      have hcall := h E2.N hA0 E3 w2 (xs ++ #[.func (.yield w1.heap.size) #[] #[]] ++ ys) hR3 (by
        have := TVl_append (TVl_append (TVl_mono (le2.trans hpl) _ _ h1) (TVl_cons.2 ⟨_, [], rfl, hyl, TVl_nil.2 rfl⟩)) (TVl_mono (le2.trans hpl) _ _ h2)
        simpa using this)
      have hres : (resolve a.eval (rangeCall f (w.heap.size + 1)) 0).run P w2 = .ok { target := .fn (.func k) ys, args := xs ++ #[.func (.yield w1.heap.size) #[] #[]] } w2 := by
        rw [hsz1]
        have e0 : ∀ v, a.eval (.const v) = v := fun _ => rfl
        simp [rangeCall, resolve, hv, Deferred.ofValue, e0]
      have hinv : (invoke (.fn (.func k) ys) (xs ++ #[.func (.yield w1.heap.size) #[] #[]])).run P w2 = .ok (.enter k (xs ++ #[.func (.yield w1.heap.size) #[] #[]] ++ ys)) w2 := by
        simp [invoke, callFunc, hgf, hname, hbody]
      have hci : CallsIn (Fr none) (0 - 1) P k (xs ++ #[.func (.yield w1.heap.size) #[] #[]] ++ ys) w2 (rangePost (Fr none) 0 P (w.heap.size + 1) (Lift D n E w true K) { a with defers := [mark w.heap.size] ++ a.defers }) := by
        refine callsIn_Fr.2 (hcall.mono ?_)
        rintro e w3 ⟨o, B, E4, hk, hR4, hE4, hS4, hO⟩
        have le4 : E.Le E4 := (le2.trans hpl).trans hE4
        have hH4 : E4.H w.heap.size = some (.deferred (some [])) := (hpl.trans hE4).H _ _ hH2
        have hM : ∀ w4 : World, w3.heap.size ≤ w4.heap.size → Marks E4 w w4 [w.heap.size] := fun w4 h4 => ⟨by simp, by simpa using hH4, by simp, by
          have := hS4.size
          have h2 : w2.heap.size = w.heap.size + 2 := by rw [← hw2, ← hw1]; simp only [World.size_alloc]
          intro b hb; simp at hb; omega⟩
        have heE : EnvR E4 env { a with defers := [mark w.heap.size] ++ a.defers } := he.mono le4
        have hdd : [mark w.heap.size] ++ a.defers = [w.heap.size].map mark ++ D := by rw [hd]; rfl
        cases o with
        | pan v =>
          obtain ⟨c, rfl, hc⟩ := hO
          exact ⟨.pan v, env, B, E4, [w.heap.size], hk, ⟨c, rfl, hc⟩, hR4, heE, le4, hS2.trans hS4, ha, hdd, hM _ (Nat.le_refl _), fun e => by cases e⟩
        | ret v =>
          obtain ⟨c, rfl, hc⟩ := hO
          have haddr4 : (E4.loc E2.N).addr = some (w1.heap.size, 0) := by rw [hE4.loc _ hN3]; exact haddr
          have fin : ∀ en' ps' asg' body' s', B E2.N = some (.lp en' ps' asg' body' s') → s'.st ≠ .busy → ∃ w4, (Instr.endLoop (w.heap.size + 1)).run P w3 = .ok s'.pend w4 ∧ Rep E4 (B.del E2.N) w4 ∧ Same w3 w4 := by
            intro en' ps' asg' body' s' hB hs
            obtain ⟨b, r, hb1, hb2, hb3, hb4, hb5, hb6, hb7, hb8, hb9⟩ := hR4.cont _ _ hB
            rw [haddr4] at hb1; injection hb1 with hb1; injection hb1 with hb1 _; subst hb1
            rw [← hsz1]
            refine ⟨_, by rw [run_endLoop hb3 (by rw [hb8]; exact hs), hb9], hR4.free hB haddr4 fun x hx => World.putObj_heap_other hx, ⟨rfl, rfl, by simp⟩⟩
          simp only at hk
          split at hk
          · rename_i en' ps' asg' body' hB
            obtain ⟨w4, hr4, hR5, hS5⟩ := fin _ _ _ _ _ hB (by simp [LSt.st])
            exact ⟨_, w4, hr4, .normal, env, _, E4, [w.heap.size], hk, rfl, hR5, heE, le4, (hS2.trans hS4).trans hS5, ha, hdd, hM _ hS5.size, fun e => by cases e⟩
          · rename_i en' ps' asg' body' hB
            obtain ⟨w4, hr4, hR5, hS5⟩ := fin _ _ _ _ _ hB (by simp [LSt.st])
            exact ⟨_, w4, hr4, wpIn_ret ⟨.ret, env, _, E4, [w.heap.size], hk, rfl, hR5, heE, le4, (hS2.trans hS4).trans hS5, ha, hdd, hM _ hS5.size, fun e => by cases e⟩⟩
          · rename_i en' ps' asg' body' id hB
            obtain ⟨w4, hr4, hR5, hS5⟩ := fin _ _ _ _ _ hB (by simp [LSt.st])
            exact ⟨_, w4, hr4, wpIn_exit ⟨.exit id, env, _, E4, [w.heap.size], hk, rfl, hR5, heE, le4, (hS2.trans hS4).trans hS5, ha, hdd, hM _ hS5.size, fun e => by cases e⟩⟩
          · exact hk.elim
      exact ⟨w.heap.size + 1, [mark w.heap.size], w2, _, w2, k, _, w2, by rw [hent, hw2], hres, fun _ _ => trivial, hinv, fun e => (by cases e), hci⟩
    · exact h.elim
  | .scope c, ac, ht, hrf, K, env, A, h, D, E, a, w, hR, he, ha, hd => by
    simp only [trC] at ht
    refine wpIn_scopeS (fun l a w hl => ?_) (aw_ok c ac ht hrf K env A h D E a w hR he ha hd)
    obtain ⟨ae, env', A', E', ms, hk, hx, _⟩ := hl
    cases ae with
    | normal => cases hx
    | exit id => cases hx
    | ret => cases hx
    | pan v => obtain ⟨c, hx, _⟩ := hx; cases hx
  | .label l, ac, ht, hrf, K, env, A, h, D, E, a, w, hR, he, ha, hd => by
    simp only [trC] at ht; injection ht with ht; subst ht
    exact wpIn_label ⟨.normal, env, A, E, [], h, rfl, hR, he, Emb.Le.refl E, Same.refl w, ha, hd, .nil, fun _ => rfl⟩
  | .goto _, ac, ht, _, _, _, _, _, _, _, _, _, _, _, _, _ => by simp [trC] at ht
  | .refuse _, ac, ht, _, _, _, _, _, _, _, _, _, _, _, _, _ => by simp [trC] at ht
end
end AVL
