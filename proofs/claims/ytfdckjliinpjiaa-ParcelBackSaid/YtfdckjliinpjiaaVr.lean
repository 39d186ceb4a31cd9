/- What an operation looks at; weaker ends. -/
import Derived.Test.YtfdckjliinpjiaaVq
namespace AVL
open Go
set_option linter.unusedSimpArgs false
set_option linter.unusedVariables false

def AO.uses : AO → List Nat
  | .t n => [n]
  | .v _ => []
def usesO : Option AO → List Nat
  | none => []
  | some x => x.uses
def AOp.uses : AOp → List Nat
  | .mv x | .un _ x | .conv _ x | .fadr _ _ _ x | .field _ _ _ x | .s2a _ x | .ext _ x | .len _ x | .load _ _ x | .box _ _ x => x.uses
  | .pick c a b => c.uses ++ (a.uses ++ b.uses)
  | .alloc _ _ => []
  | .build _ _ ps => ps.flatMap fun p => p.2.2.uses
  | .bslI _ _ xs | .bsl _ _ _ xs => xs.flatMap AO.uses
  | .store _ _ p x | .bin _ p x | .eq _ _ p x | .idx _ p x | .idxA _ _ _ p x | .mkI _ _ _ p x | .mk _ _ _ _ p x | .appI _ _ _ p x | .app _ _ _ p x => p.uses ++ x.uses
  | .slc _ x lo hi | .slcA _ x lo hi => x.uses ++ (usesO lo ++ usesO hi)
  | .call _ args => args.flatMap fun p => p.2.uses
  | .callV x args => x.uses ++ args.flatMap fun p => p.2.uses
  | .pnc x => x.uses
  | .xx _ xs => xs.flatMap AO.uses

theorem ev_congr {env env' : AEnv} {x : AO} (h : ∀ t ∈ x.uses, env t = env' t) : ev env x = ev env' x := by
  cases x with
  | t n => exact h n (by simp [AO.uses])
  | v a => rfl
theorem evo_congr {env env' : AEnv} {x : Option AO} (h : ∀ t ∈ usesO x, env t = env' t) : evo env x = evo env' x := by
  cases x with
  | none => rfl
  | some x => simp only [evo]; rw [ev_congr h]
theorem foldP_congr {env env' : AEnv} : ∀ (ps : List (Nat × Nat × AO)) (l : List AV), (∀ t ∈ ps.flatMap (fun p => p.2.2.uses), env t = env' t) → foldP env l ps = foldP env' l ps
  | [], l, h => rfl
  | (o, s, x) :: r, l, h => by
    have hx : ev env x = ev env' x := ev_congr fun t ht => h t (by simp [ht])
    simp only [foldP, hx]
    split
    · split
      · exact foldP_congr r _ fun t ht => h t (by simp only [List.flatMap_cons, List.mem_append]; exact .inr ht)
      · rfl
    · rfl
theorem fillAll_congr {env env' : AEnv} {sh : Sh} {sz : Nat} : ∀ (xs : List AO), (∀ t ∈ xs.flatMap AO.uses, env t = env' t) → fillAll env sh sz xs = fillAll env' sh sz xs
  | [], h => rfl
  | x :: r, h => by
    have hx : ev env x = ev env' x := ev_congr fun t ht => h t (by simp [ht])
    have hr := fillAll_congr (sh := sh) (sz := sz) r fun t ht => h t (by simp only [List.flatMap_cons, List.mem_append]; exact .inr ht)
    simp only [fillAll, hx, hr]
theorem nrms_congr {env env' : AEnv} : ∀ (xs : List (Sh × AO)), (∀ t ∈ xs.flatMap (fun p => p.2.uses), env t = env' t) → nrms env xs = nrms env' xs
  | [], h => rfl
  | (sh, x) :: r, h => by
    have hx : ev env x = ev env' x := ev_congr fun t ht => h t (by simp [ht])
    have hr := nrms_congr r fun t ht => h t (by simp only [List.flatMap_cons, List.mem_append]; exact .inr ht)
    simp only [nrms, hx, hr]
theorem aop_congr {P : Program} {o : AOp} {env env' : AEnv} {A : Heap} {K Kp : AV → Heap → Prop} (h : ∀ t ∈ o.uses, env t = env' t) : aop P o env A K Kp = aop P o env' A K Kp := by
  have l : ∀ {a b : List Nat}, (∀ t ∈ a ++ b, env t = env' t) → (∀ t ∈ a, env t = env' t) ∧ (∀ t ∈ b, env t = env' t) := fun h => ⟨fun t ht => h t (by simp [ht]), fun t ht => h t (by simp [ht])⟩
  cases o <;> simp only [AOp.uses] at h <;> simp only [aop]
  case mv => rw [ev_congr h]
  case pick => rw [ev_congr (l h).1, ev_congr (l (l h).2).1, ev_congr (l (l h).2).2]
  case box => rw [ev_congr h]
  case build => unfold abuild; rw [foldP_congr _ _ h]
  case bslI => unfold abslI; rw [fillAll_congr _ h]
  case bsl => unfold absl; rw [fillAll_congr _ h]
  case load => rw [ev_congr h]
  case un => rw [ev_congr h]
  case conv => rw [ev_congr h]
  case fadr => rw [ev_congr h]
  case field => rw [ev_congr h]
  case s2a => rw [ev_congr h]
  case ext => rw [ev_congr h]
  case len => rw [ev_congr h]
  case slc => rw [ev_congr (l h).1, evo_congr (l (l h).2).1, evo_congr (l (l h).2).2]
  case slcA => rw [ev_congr (l h).1, evo_congr (l (l h).2).1, evo_congr (l (l h).2).2]
  case call => rw [nrms_congr _ h]
  case callV => rw [ev_congr (l h).1, nrms_congr _ (l h).2]
  case pnc => rw [ev_congr h]
  case xx o xs =>
    have : xs.map (ev env) = xs.map (ev env') := List.map_congr_left fun y hy => ev_congr fun t ht => h t (List.mem_flatMap.2 ⟨y, hy, ht⟩)
    rw [this]
  all_goals rw [ev_congr (l h).1, ev_congr (l h).2]

/-! ### weaker ends, for the operations that do not float -/
theorem srcI_mono' {k : IntKind} {s : AV} {A : Heap} {Q Q' : List Int → Prop} (h : srcI k s A Q) (hq : ∀ l, Q l → Q' l) : srcI k s A Q' := by
  unfold srcI at h
  split at h
  · exact hq _ h
  · exact ⟨h.1, hq _ h.2⟩
  · exact ⟨h.1, hq _ h.2⟩
  · split at h
    · rename_i hA; simp only [srcI, hA]; exact ⟨h.1, h.2.1, hq _ h.2.2⟩
    · exact h.elim
  · split at h
    · rename_i hA
      split at h
      · rename_i hg; simp only [srcI, hA, hg]; exact ⟨h.1, h.2.1, hq _ h.2.2⟩
      · exact h.elim
    · exact h.elim
  · exact h.elim
theorem xop_mono {o : XOp} {xs : List AV} {A : Heap} {K K' : AV → Heap → Prop} (hf : o.floats = false) (hk : ∀ v A', K v A' → K' v A') (h : xop o xs A K) : xop o xs A K' := by
  cases o <;> simp only [XOp.floats, Bool.true_eq_false] at hf
  case sealB =>
    match xs with
    | [] => exact h
    | [x] =>
      simp only [xop] at h ⊢
      split at h
      · obtain ⟨h0, h⟩ := h
        split at h
        · exact ⟨h0, h.1, hk _ _ h.2⟩
        · exact h.elim
      · exact h
    | _ :: _ :: _ => exact h
  case strB e =>
    match xs with
    | [] => exact h
    | [x] =>
      simp only [xop] at h ⊢
      split at h
      · exact fun g hg => hk _ _ (h g hg)
      · exact h
    | _ :: _ :: _ => exact h
  case appZ e k bytes =>
    match xs with
    | [] => exact h
    | [_] => exact h
    | [d, s] =>
      simp only [xop] at h ⊢
      unfold aappZ at h ⊢
      split at h
      · refine ⟨h.1, h.2.1, ?_⟩
        have h := h.2.2
        split at h
        · exact fun g hg => hk _ _ (h g hg)
        · split at h
          · rename_i hA
            exact ⟨h.1, h.2.1, h.2.2.1, h.2.2.2.1, fun g hg => hk _ _ (h.2.2.2.2 g hg)⟩
          · exact h.elim
        · exact h.elim
      · exact h
    | _ :: _ :: _ :: _ => exact h
  case mkM k =>
    match xs with
    | [] => exact fun g hg => hk _ _ (h g hg)
    | _ :: _ => exact h
  case upM k =>
    match xs with
    | [] => exact h
    | [_] => exact h
    | [_, _] => exact h
    | [m, x, v] =>
      simp only [xop] at h ⊢
      split at h
      · obtain ⟨h0, h⟩ := h
        split at h
        · exact ⟨h0, h.1, hk _ _ h.2⟩
        · exact h.elim
      · exact h
    | _ :: _ :: _ :: _ :: _ => exact h
  case lkM k z ok =>
    match xs with
    | [] => exact h
    | [_] => exact h
    | [m, x] =>
      simp only [xop] at h ⊢
      split at h
      · obtain ⟨h0, h⟩ := h
        split at h
        · exact ⟨h0, hk _ _ h⟩
        · split at h
          · exact ⟨h0, h.1, hk _ _ h.2⟩
          · exact h.elim
        · exact h.elim
      · exact h
    | _ :: _ :: _ :: _ => exact h
theorem aop_mono {P : Program} {o : AOp} {env : AEnv} {A : Heap} {K K' Kp Kp' : AV → Heap → Prop} (hf : o.floats = false) (hk : ∀ v A', K v A' → K' v A') (hp : ∀ v A', Kp v A' → Kp' v A')
    (h : aop P o env A K Kp) : aop P o env A K' Kp' := by
  cases o <;> simp only [AOp.floats, Bool.true_eq_false] at hf <;> simp only [aop] at h ⊢
  case xx o xs => exact xop_mono hf hk h
  case alloc => exact fun g hg => hk _ _ (h g hg)
  case box =>
    refine ⟨h.1, ?_⟩
    have h := h.2
    unfold abox at h
    split at h
    · exact h.elim
    · rename_i e; simp only [abox, e]; exact fun g hg => hk _ _ (h g hg)
  case bslI =>
    unfold abslI at h
    split at h
    · rename_i e
      split at h
      · rename_i e'; simp only [abslI, e, e']; exact fun g hg => hk _ _ (h g hg)
      · exact h.elim
    · exact h.elim
  case bsl =>
    unfold absl at h
    split at h
    · rename_i e; simp only [absl, e]; exact fun g hg => hk _ _ (h g hg)
    · exact h.elim
  case store =>
    refine ⟨h.1, ?_⟩
    have h := h.2
    unfold astore at h
    split at h
    · exact h.elim
    · rename_i e
      obtain ⟨h1, h2, h⟩ := h
      split at h
      · rename_i e1
        split at h
        · rename_i e2
          split at h
          · rename_i e3; simp only [astore, e, e1, e2, e3]; exact ⟨h1, h2, hk _ _ h⟩
          · exact h.elim
        · exact h.elim
      · rename_i e1
        split at h
        · rename_i e2
          split at h
          · rename_i e3
            obtain ⟨h3, h4, h⟩ := h
            split at h
            · rename_i e4; simp only [astore, e, e1, e2, e3, e4]; exact ⟨h1, h2, h3, h4, hk _ _ h⟩
            · exact h.elim
          · exact h.elim
        · exact h.elim
      · rename_i e1
        split at h
        · rename_i e2
          split at h
          · simp only [astore, e, e1, e2]; exact ⟨h1, h2, h.1, h.2.1, h.2.2.1, hk _ _ h.2.2.2⟩
          · exact h.elim
        · rename_i e2
          obtain ⟨hh, h⟩ := h
          split at h
          · rename_i e3; simp only [astore, e, e1, e2]; exact ⟨h1, h2, hh, by simp only [e3]; exact hk _ _ h⟩
          · exact h.elim
        · exact h.elim
      · exact h.elim
  case mkI =>
    unfold amkI at h
    split at h
    · rename_i e1 e2; simp only [amkI, e1, e2]; exact ⟨h.1, h.2.1, h.2.2.1, fun g hg => hk _ _ (h.2.2.2 g hg)⟩
    · exact h.elim
  case mk =>
    unfold amk at h
    split at h
    · rename_i e1 e2; simp only [amk, e1, e2]; exact ⟨h.1, h.2.1, h.2.2.1, fun g hg => hk _ _ (h.2.2.2 g hg)⟩
    · exact h.elim
  case appI =>
    refine srcI_mono' h ?_
    intro ys h
    split at h
    · rename_i e; (try simp only [e]); exact ⟨h.1, fun g hg => hk _ _ (h.2 g hg)⟩
    · rename_i e
      split at h
      · rename_i e2; (try simp only [e, e2]); exact ⟨h.1, h.2.1, h.2.2.1, h.2.2.2.1, fun g hg => hk _ _ (h.2.2.2.2 g hg)⟩
      · exact h.elim
    · rename_i e
      split at h
      · rename_i e2
        split at h
        · rename_i e3; (try simp only [e, e2, e3]); exact ⟨h.1, h.2.1, h.2.2.1, h.2.2.2.1, h.2.2.2.2.1, fun g hg => hk _ _ (h.2.2.2.2.2 g hg)⟩
        · exact h.elim
      · exact h.elim
    · exact h.elim
  case app =>
    refine srcG_mono h ?_
    intro ys hh
    obtain ⟨hs, h⟩ := hh
    refine ⟨hs, ?_⟩
    split at h
    · rename_i e; (try simp only [e]); exact ⟨h.1, fun g hg => hk _ _ (h.2 g hg)⟩
    · rename_i e
      split at h
      · rename_i e2; (try simp only [e, e2]); exact ⟨h.1, h.2.1, h.2.2.1, h.2.2.2.1, fun g hg => hk _ _ (h.2.2.2.2 g hg)⟩
      · exact h.elim
    · exact h.elim
  case callV =>
    split at h
    · rename_i e1 e2
      try simp only [e1, e2]
      refine ⟨h.1, h.2.mono ?_⟩
      intro out A' ho
      cases out with
      | ret v => exact hk _ _ ho
      | pan v => exact hp _ _ ho
    · exact h.elim
  case pnc =>
    split at h
    · rename_i e1
      try simp only [e1]
      exact hp _ _ h
    · exact h.elim
  case call =>
    split at h
    · rename_i e; (try simp only [e])
      refine h.mono ?_
      intro out A' ho
      cases out with
      | ret v => exact hk _ _ ho
      | pan v => exact hp _ _ ho
    · exact h.elim
end AVL
