/- Code and functions. -/
import Derived.Test.YtfdckjliinpjiaaVt
namespace AVL
open Go
set_option linter.unusedSimpArgs false
set_option linter.unusedVariables false

inductive AEx where
  | normal
  | exit (id : Nat)
  | ret
  | pan (v : AV)
abbrev APost := AEx → AEnv → Heap → Prop

inductive ACode where
  | skip
  | region (ops : List AOper)
  | regionD (ds : List DOp)
  | seq (a b : ACode)
  | cond (c : AO) (x y : ACode)
  | block (id : Nat) (c : ACode)
  | loop (c : ACode)
  | exit (id : Nat)
  | ret

def awOps (P : Program) : List AOper → (AEnv → Heap → Prop) → (AV → AEnv → Heap → Prop) → AEnv → Heap → Prop
  | [], K, _, env, A => K env A
  | o :: r, K, Kp, env, A => match o.g with
    | none => aop P o.op env A (fun v A' => awOps P r K Kp (put env o.dst v) A') (fun v A' => Kp v env A')
    | some (s, want) => match env s with
      | .bool b => (b = want → aop P o.op (upd env s (.bool want)) A (fun v A' => awOps P r K Kp (put (upd env s (.bool want)) o.dst v) A') (fun v A' => Kp v (upd env s (.bool want)) A')) ∧
          (b = !want → awOps P r K Kp (put (upd env s (.bool !want)) o.dst .undef) A)
      | .undef => awOps P r K Kp (put env o.dst .undef) A
      | _ => False

def AEx.then (next : AEnv → Heap → Prop) (K : APost) : APost
  | .normal, env, A => next env A
  | e, env, A => K e env A
def AEx.inBlock (id : Nat) (K : APost) : APost
  | .exit id', env, A => if id' = id then K .normal env A else K (.exit id') env A
  | e, env, A => K e env A
def aw (P : Program) : ACode → APost → AEnv → Heap → Prop
  | .skip, K, env, A => K .normal env A
  | .region ops, K, env, A => awOps P ops (K .normal) (fun v => K (.pan v)) env A
  | .regionD ds, K, env, A => awD P ds (K .normal) (fun v A => ∀ env' : AEnv, K (.pan v) env' A) env A
  | .seq x y, K, env, A => aw P x (AEx.then (aw P y K) K) env A
  | .cond c x y, K, env, A => match ev env c with
    | .bool b => (b = true → aw P x K env A) ∧ (b = false → aw P y K env A)
    | _ => False
  | .block id c, K, env, A => aw P c (AEx.inBlock id K) env A
  | .loop c, K, env, A => ∃ (S : Type) (I : S → AEnv → Heap → Prop) (μ : S → Nat) (s : S), (∃ B : Heap, B.Sub A ∧ I s env B) ∧
      ∀ s env B, I s env B → aw P c (AEx.then (fun env' A' => ∃ s' B', Heap.Sub B' A' ∧ I s' env' B' ∧ μ s' < μ s) K) env B
  | .exit id, K, env, A => K (.exit id) env A
  | .ret, K, env, A => K .ret env A

def trC (P : Program) (n : Nat) : Code → Option ACode
  | .skip => some .skip
  | .region _ ops false => (trOpers P n ops ops.toList).map .region
  | .region _ ops true => if P.follows .mixedOrders = true then (trD P n ops).map .regionD else none
  | .seq a b => match trC P n a, trC P n b with
    | some x, some y => some (.seq x y)
    | _, _ => none
  | .cond c x y => match trO c, trC P n x, trC P n y with
    | some a, some x, some y => some (.cond a x y)
    | _, _, _ => none
  | .block id c => (trC P n c).map (.block id)
  | .loop c => (trC P n c).map .loop
  | .exit id => some (.exit id)
  | .ret => some .ret
  | _ => none

section
variable {P : Program}

/-- How a walk of the machine ends, told by abstract values. -/
def ExR (E : Emb) : AEx → Exit → Prop
  | .normal, e => e = .normal
  | .exit id, e => e = .exit id
  | .ret, e => e = .ret
  | .pan v, e => ∃ c, e = .panic [{ v := c, recovered := false }] ∧ TV E v c
def Lift (D : List Deferred) (n : Nat) (E0 : Emb) (w0 : World) (K : APost) : Exit → Act → World → Prop := fun e a w =>
  ∃ ae env A E, K ae env A ∧ ExR E ae e ∧ Rep E A w ∧ EnvR E env a ∧ E0.Le E ∧ Same w0 w ∧ a.tmps.size = n ∧ a.defers = D
theorem Lift.from {D : List Deferred} {n : Nat} {E0 E1 : Emb} {w0 w1 : World} {K : APost} {e : Exit} {a : Act} {w : World} (hE : E0.Le E1) (hS : Same w0 w1) (h : Lift D n E1 w1 K e a w) : Lift D n E0 w0 K e a w := by
  obtain ⟨ae, env, A, E, h1, h2, h3, h4, h5, h6, h7⟩ := h
  exact ⟨ae, env, A, E, h1, h2, h3, h4, hE.trans h5, hS.trans h6, h7⟩

theorem ops_ok {D : List Deferred} {n : Nat} (ops : Array Oper) {K : AEnv → Heap → Prop} {Kp : AV → AEnv → Heap → Prop} {Q : Exit → Act → World → Prop} {E0 : Emb} {w0 : World}
    (hK : ∀ env A E a w, K env A → Rep E A w → EnvR E env a → E0.Le E → Same w0 w → a.tmps.size = n → a.defers = D → Q .normal a w)
    (hKp : ∀ v env A E a w c, Kp v env A → Rep E A w → EnvR E env a → E0.Le E → Same w0 w → a.tmps.size = n → a.defers = D → TV E v c → Q (.panic [{ v := c, recovered := false }]) a w) :
    ∀ (m k : Nat) (aops : List AOper), m + k = ops.size → trOpers P n ops (ops.toList.drop m) = some aops → ∀ env A E a w, awOps P aops K Kp env A → Rep E A w → EnvR E env a → E0.Le E → Same w0 w → a.tmps.size = n → a.defers = D →
      wpOps P ops Q ((List.range k).map (m + ·)) a w := by
  intro m k
  induction k generalizing m with
  | zero =>
    intro aops hm ht env A E a w h hR he hE hS ha hd
    rw [List.drop_of_length_le (by simp; omega)] at ht
    simp only [trOpers] at ht; injection ht with ht; subst ht
    exact hK env A E a w h hR he hE hS ha hd
  | succ k ih =>
    intro aops hm ht env A E a w h hR he hE hS ha hd
    have hlt : m < ops.size := by omega
    rw [List.drop_eq_getElem_cons (by simpa using hlt)] at ht
    simp only [trOpers] at ht
    split at ht
    · rename_i ao l h1 h2
      injection ht with ht; subst ht
      have hrange : (List.range (k + 1)).map (m + ·) = m :: (List.range k).map ((m + 1) + ·) := by
        rw [List.range_succ_eq_map]
        simp only [List.map_cons, Nat.add_zero, List.map_map]
        congr 1
        apply List.map_congr_left
        intro j _
        simp; omega
      rw [hrange]
      simp only [wpOps]
      have hget : ops[m]? = some ops[m] := Array.getElem?_eq_getElem hlt
      rw [hget]
      simp only
      simp only [Array.getElem_toList] at h1
      unfold trOper at h1
      split at h1
      · rename_i aop' g h3 h4
        split at h1
        · rename_i hh
          injection h1 with h1; subst h1
          have next : ∀ (env' : AEnv), EnvR E env' a → aop P aop' env' A (fun v A' => awOps P l K Kp (put env' ops[m].dst v) A') (fun v A' => Kp v env' A') →
              ops[m].wp P a w (wpOps P ops Q ((List.range k).map ((m + 1) + ·))) Q := by
            intro env' he' h'
            refine oper_ok h3 hR he' h' (fun v A' E' w' c hk hR' hE' hS' hc => ?_) (fun v A' E' w' c hk hR' hE' hS' hc => ?_)
            · obtain ⟨p1, p2, p3⟩ := put_ok (he'.mono hE') ha hh.1 hc
              exact ih (m + 1) l (by omega) h2 _ _ E' _ _ hk hR' p1 (hE.trans hE') (hS.trans hS') p2 (p3.trans hd)
            · exact hKp v env' A' E' a w' c hk hR' (he'.mono hE') (hE.trans hE') (hS.trans hS') ha hd hc
          cases hg0 : ops[m].guard with
          | none =>
            rw [hg0] at h4
            simp only [trGuard] at h4
            injection h4 with h4; subst h4
            simp only [awOps] at h
            have hwant : Region.wanted ops[m] (yielded ops a.tmps) = true := by simp [Region.wanted, hg0]
            rw [if_pos hwant]
            exact .inl (next env he h)
          | some jw =>
            obtain ⟨j, want⟩ := jw
            rw [hg0] at h4
            simp only [trGuard] at h4
            split at h4
            · rename_i oj hj
              split at h4
              · rename_i d hdst
                injection h4 with h4; subst h4
                simp only [awOps] at h
                split at h
                · rename_i b hb
                  have hsd : d < n := by simpa [inG] using hh.2
                  have hd2 : d < a.tmps.size := by rw [ha]; exact hsd
                  have hy : yielded ops a.tmps j = some b := by
                    have := he d
                    rw [hb] at this
                    simp only [TV_bool] at this
                    rw [Array.getD_eq_getD_getElem?, Array.getElem?_eq_getElem hd2] at this
                    simp only [Option.getD_some] at this
                    simp [yielded, hj, hdst, Array.getElem?_eq_getElem hd2, this]
                  by_cases hbw : b = want
                  · have hwant : Region.wanted ops[m] (yielded ops a.tmps) = true := by simp [Region.wanted, hg0, hy, hbw]
                    rw [if_pos hwant]
                    exact .inl (next _ (upd_same he (by rw [hb, hbw])) (h.1 hbw))
                  · have hwant : ¬ Region.wanted ops[m] (yielded ops a.tmps) = true := by simp [Region.wanted, hg0, hy, hbw]
                    rw [if_neg hwant]
                    have hbn : b = !want := by cases b <;> cases want <;> simp_all
                    obtain ⟨p1, p2, p3⟩ := put_ok (upd_same he (show env d = .bool (!want) by rw [hb, hbn])) ha hh.1 (TV_undef E undef)
                    exact ih (m + 1) l (by omega) h2 _ _ E _ _ (h.2 hbn) hR p1 hE hS p2 (p3.trans hd)
                · rename_i hb
                  have hsd : d < n := by simpa [inG] using hh.2
                  have hd2 : d < a.tmps.size := by rw [ha]; exact hsd
                  have hy : yielded ops a.tmps j = none := by
                    have := he d
                    rw [hb] at this
                    have := TV_undef_eq this
                    rw [Array.getD_eq_getD_getElem?, Array.getElem?_eq_getElem hd2] at this
                    simp only [Option.getD_some] at this
                    simp [yielded, hj, hdst, Array.getElem?_eq_getElem hd2, this, undef]
                  have hwant : ¬ Region.wanted ops[m] (yielded ops a.tmps) = true := by simp [Region.wanted, hg0, hy]
                  rw [if_neg hwant]
                  obtain ⟨p1, p2, p3⟩ := put_ok he ha hh.1 (TV_undef E undef)
                  exact ih (m + 1) l (by omega) h2 _ _ E _ _ h hR p1 hE hS p2 (p3.trans hd)
                · exact h.elim
              · cases h4
            · cases h4
        · cases h1
      · cases h1
    · cases ht

theorem wp_loop_ghost {c : Code} {Q : Exit → Act → World → Prop} {S : Type} (I : S → Act → World → Prop) (μ : S → Nat) {s₀ : S} {a : Act} {w : World} (h₀ : I s₀ a w)
    (round : ∀ s a w, I s a w → c.wp P (Exit.then (fun a' w' => ∃ s', I s' a' w' ∧ μ s' < μ s) Q) a w) : (Code.loop c).wp P Q a w := by
  intro b k cs
  have key : ∀ n s a w, μ s = n → I s a w →
      ∃ e a' w', Q e a' w' ∧ Arrives P (lone (b.at a (.code c :: .inLoop c :: k)) cs w) b k cs e a' w' := by
    intro n
    induction n using Nat.strongRecOn with
    | _ n ih =>
      intro s a w hn hI
      obtain ⟨e, a₁, w₁, hq, harr⟩ := round s a w hI b (.inLoop c :: k) cs
      cases e with
      | normal =>
        obtain ⟨s₁, hI₁, hlt⟩ := hq
        obtain ⟨e₂, a₂, w₂, hq₂, harr₂⟩ := ih (μ s₁) (hn ▸ hlt) s₁ a₁ w₁ rfl hI₁
        exact ⟨e₂, a₂, w₂, hq₂, .of_steps (Steps.trans harr (.one step_inLoop)) harr₂⟩
      | exit id => exact ⟨_, a₁, w₁, hq, .pass (x := .inLoop c) rfl (fun _ _ => .inl (by simp)) harr⟩
      | goto l => exact ⟨_, a₁, w₁, hq, .pass (x := .inLoop c) rfl (fun _ _ => .inl (by simp)) harr⟩
      | ret => exact ⟨_, a₁, w₁, hq, .pass (x := .inLoop c) rfl (fun _ _ => .inl (by simp)) harr⟩
      | panic ch => exact ⟨_, a₁, w₁, hq, .pass (x := .inLoop c) rfl (fun _ _ => .inl (by simp)) harr⟩
      | outgrown => exact ⟨_, a₁, w₁, hq, .pass (x := .inLoop c) rfl (fun _ _ => .inl (by simp)) harr⟩
  obtain ⟨e, a', w', hq, harr⟩ := key _ s₀ a w rfl h₀
  exact ⟨e, a', w', hq, .of_steps (.one step_loop) harr⟩

theorem aw_ok {D : List Deferred} {n : Nat} : ∀ (c : Code) (ac : ACode), trC P n c = some ac → ∀ (K : APost) env A, aw P ac K env A → ∀ E a w, Rep E A w → EnvR E env a → a.tmps.size = n → a.defers = D → c.wp P (Lift D n E w K) a w
  | .skip, ac, ht, K, env, A, h, E, a, w, hR, he, ha, hd => by
    simp only [trC] at ht; injection ht with ht; subst ht
    exact wp_skip ⟨.normal, env, A, E, h, rfl, hR, he, Emb.Le.refl E, Same.refl w, ha, hd⟩
  | .exit id, ac, ht, K, env, A, h, E, a, w, hR, he, ha, hd => by
    simp only [trC] at ht; injection ht with ht; subst ht
    exact wp_exit ⟨.exit id, env, A, E, h, rfl, hR, he, Emb.Le.refl E, Same.refl w, ha, hd⟩
  | .ret, ac, ht, K, env, A, h, E, a, w, hR, he, ha, hd => by
    simp only [trC] at ht; injection ht with ht; subst ht
    exact wp_ret ⟨.ret, env, A, E, h, rfl, hR, he, Emb.Le.refl E, Same.refl w, ha, hd⟩
  | .region id ops draw, ac, ht, K, env, A, h, E, a, w, hR, he, ha, hd => by
    cases draw with
    | true =>
      simp only [trC] at ht
      split at ht
      · rename_i hm
        obtain ⟨ds, ho, rfl⟩ := opt_map ht
        have hR' : Rep E A { w with drawn := w.drawn + 1 } := ⟨hR.frm, hR.lt, fun g c hg => (by have := hR.cont g c hg; cases c <;> exact this), hR.sep, hR.low, hR.lon, hR.hid⟩
        have hS' : Same w { w with drawn := w.drawn + 1 } := ⟨rfl, rfl, Nat.le_refl _⟩
        exact trD_ok (Q := Lift D n E w K) (E0 := E) (w0 := w) hm ho
          (fun env A E' a w' hk hR he hE hS ha hd => ⟨.normal, env, A, E', hk, rfl, hR, he, hE, hS, ha, hd⟩)
          (fun v env A E' a w' c hk hR he hE hS ha hd hc => ⟨.pan v, env, A, E', hk env, ⟨c, rfl, hc⟩, hR, he, hE, hS, ha, hd⟩)
          h hR' he (Emb.Le.refl E) hS' ha hd
      · cases ht
    | false =>
      simp only [trC] at ht
      obtain ⟨aops, ho, rfl⟩ := opt_map ht
      refine wp_region ?_
      have := ops_ok (P := P) (n := n) ops (K := K .normal) (Kp := fun v => K (.pan v)) (Q := Lift D n E w K) (E0 := E) (w0 := w)
        (fun env A E' a w' hk hR he hE hS ha hd => ⟨.normal, env, A, E', hk, rfl, hR, he, hE, hS, ha, hd⟩)
        (fun v env A E' a w' c hk hR he hE hS ha hd hc => ⟨.pan v, env, A, E', hk, ⟨c, rfl, hc⟩, hR, he, hE, hS, ha, hd⟩)
        0 ops.size aops (by omega) (by simpa using ho) env A E a w h hR he (Emb.Le.refl E) (Same.refl w) ha hd
      simpa using this
  | .seq x y, ac, ht, K, env, A, h, E, a, w, hR, he, ha, hd => by
    simp only [trC] at ht
    split at ht
    · rename_i ax ay h1 h2
      injection ht with ht; subst ht
      refine wp_seq (wp_mono (aw_ok x ax h1 _ env A h E a w hR he ha hd) ?_)
      rintro e a' w' ⟨ae, env', A', E', hk, hx, hR', he', hE, hS, ha', hd'⟩
      cases ae with
      | normal =>
        cases hx
        exact wp_mono (aw_ok y ay h2 K env' A' hk E' a' w' hR' he' ha' hd') (fun _ _ _ hl => hl.from hE hS)
      | exit id => cases hx; exact ⟨.exit id, env', A', E', hk, rfl, hR', he', hE, hS, ha', hd'⟩
      | ret => cases hx; exact ⟨.ret, env', A', E', hk, rfl, hR', he', hE, hS, ha', hd'⟩
      | pan v => obtain ⟨c, rfl, hc⟩ := hx; exact ⟨.pan v, env', A', E', hk, ⟨c, rfl, hc⟩, hR', he', hE, hS, ha', hd'⟩
    · cases ht
  | .cond c x y, ac, ht, K, env, A, h, E, a, w, hR, he, ha, hd => by
    simp only [trC] at ht
    split at ht
    · rename_i cc ax ay h0 h1 h2
      injection ht with ht; subst ht
      simp only [aw] at h
      split at h
      · rename_i b hb
        have hc := ev_ok he h0
        rw [hb] at hc
        simp only [TV_bool] at hc
        exact wp_cond_split hc (fun e => aw_ok x ax h1 K env A (h.1 e) E a w hR he ha hd) (fun e => aw_ok y ay h2 K env A (h.2 e) E a w hR he ha hd)
      · exact h.elim
    · cases ht
  | .block id c, ac, ht, K, env, A, h, E, a, w, hR, he, ha, hd => by
    simp only [trC] at ht
    obtain ⟨ax, hx, rfl⟩ := opt_map ht
    refine wp_block (wp_mono (aw_ok c ax hx _ env A h E a w hR he ha hd) ?_)
    rintro e a' w' ⟨ae, env', A', E', hk, hx, hR', he', hE, hS, ha', hd'⟩
    cases ae with
    | normal => cases hx; exact ⟨.normal, env', A', E', hk, rfl, hR', he', hE, hS, ha', hd'⟩
    | exit id' =>
      cases hx
      simp only [Exit.inBlock, AEx.inBlock] at hk ⊢
      split
      · rename_i e; rw [if_pos e] at hk; exact ⟨.normal, env', A', E', hk, rfl, hR', he', hE, hS, ha', hd'⟩
      · rename_i e; rw [if_neg e] at hk; exact ⟨.exit id', env', A', E', hk, rfl, hR', he', hE, hS, ha', hd'⟩
    | ret => cases hx; exact ⟨.ret, env', A', E', hk, rfl, hR', he', hE, hS, ha', hd'⟩
    | pan v => obtain ⟨c, rfl, hc⟩ := hx; exact ⟨.pan v, env', A', E', hk, ⟨c, rfl, hc⟩, hR', he', hE, hS, ha', hd'⟩
  | .loop c, ac, ht, K, env, A, h, E, a, w, hR, he, ha, hd => by
    simp only [trC] at ht
    obtain ⟨ax, hx, rfl⟩ := opt_map ht
    obtain ⟨S, I, μ, s, ⟨B0, hB0, hI⟩, hround⟩ := h
    refine wp_loop_ghost (S := S) (fun s a w' => ∃ env A E', I s env A ∧ Rep E' A w' ∧ EnvR E' env a ∧ E.Le E' ∧ Same w w' ∧ a.tmps.size = n ∧ a.defers = D) μ (s₀ := s)
      ⟨env, B0, E, hI, hR.sub hB0, he, Emb.Le.refl E, Same.refl w, ha, hd⟩ ?_
    rintro s a1 w1 ⟨env1, A1, E1, hI1, hR1, he1, hE1, hS1, ha1, hd1⟩
    refine wp_mono (aw_ok c ax hx _ env1 A1 (hround s env1 A1 hI1) E1 a1 w1 hR1 he1 ha1 hd1) ?_
    rintro e a' w' ⟨ae, env', A', E', hk, hx, hR', he', hE, hS, ha', hd'⟩
    cases ae with
    | normal =>
      cases hx
      obtain ⟨s', B', hB', hI', hlt⟩ := hk
      exact ⟨s', ⟨env', B', E', hI', hR'.sub hB', he', hE1.trans hE, hS1.trans hS, ha', hd'⟩, hlt⟩
    | exit id => cases hx; exact ⟨.exit id, env', A', E', hk, rfl, hR', he', hE1.trans hE, hS1.trans hS, ha', hd'⟩
    | ret => cases hx; exact ⟨.ret, env', A', E', hk, rfl, hR', he', hE1.trans hE, hS1.trans hS, ha', hd'⟩
    | pan v => obtain ⟨c, rfl, hc⟩ := hx; exact ⟨.pan v, env', A', E', hk, ⟨c, rfl, hc⟩, hR', he', hE1.trans hE, hS1.trans hS, ha', hd'⟩
  | .rangeFunc .., ac, ht, _, _, _, _, _, _, _, _, _, _, _ => by simp [trC] at ht
  | .scope _, ac, ht, _, _, _, _, _, _, _, _, _, _, _ => by simp [trC] at ht
  | .label _, ac, ht, _, _, _, _, _, _, _, _, _, _, _ => by simp [trC] at ht
  | .goto _, ac, ht, _, _, _, _, _, _, _, _, _, _, _ => by simp [trC] at ht
  | .refuse _, ac, ht, _, _, _, _, _, _, _, _, _, _, _ => by simp [trC] at ht
end
end AVL
