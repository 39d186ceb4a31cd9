/- A region whose order is open does what its operations do in the order that awD has. -/
import Derived.Test.YtjbiekcldkjgjaaVs
namespace AVL
open Go
set_option linter.unusedSimpArgs false
set_option linter.unusedVariables false

structure DRow where
  i : Nat
  d : DOp
def ancT (T : List (List Nat)) (i : Nat) : List Nat := T.getD i []
def relT (T : List (List Nat)) (p q : DRow) : Bool :=
  p.i != q.i && ((ancT T q.i).contains p.i || (p.d.fl && indep q.d.o p.d.o && (q.d.fl || q.d.st || !p.d.o.op.reads)))
def relAll (T : List (List Nat)) : List DRow → Bool
  | [] => true
  | p :: r => r.all (relT T p) && relAll T r
def cAnc (ops : Array Oper) (T : List (List Nat)) (i : Nat) : Bool :=
  match ops[i]? with
  | some o => (ancT T i).all fun j => o.after.toList.any fun e => Region.binds .any e && (e.on == j || (ancT T e.on).contains j)
  | none => false
def cPre (ops : Array Oper) : List Nat → List DRow → Bool
  | _, [] => true
  | seen, p :: r => (match ops[p.i]? with
    | some o => o.after.toList.all fun e => !Region.binds .any e || seen.contains e.on
    | none => false) && cPre ops (p.i :: seen) r
def cAll (ops : Array Oper) (T : List (List Nat)) (L : List DRow) : Bool :=
  relAll T L && ((List.range ops.size).all (fun i => cAnc ops T i && L.any (fun p => p.i == i)) && (cPre ops [] L && L.all fun p => p.d.fl == p.d.o.op.floats))

/-! the order -/
def addAll : List Nat → List Nat → List Nat
  | [], l => l
  | x :: r, l => addAll r (if l.contains x then l else x :: l)
def ancsOf : List Oper → List (List Nat) → List (List Nat)
  | [], T => T
  | o :: r, T => ancsOf r (T ++ [o.after.toList.foldl (fun acc e => if Region.binds .any e then addAll (e.on :: ancT T e.on) acc else acc) []])
def chained (aops : List AOper) (i : Nat) : Bool := match aops[i]? with
  | some o => !o.op.floats
  | none => false
def keyOf (aops : List AOper) (T : List (List Nat)) (i : Nat) : Nat :=
  ((((ancT T i).filter (chained aops)).length + (if chained aops i then 1 else 0)) * 2 + (if chained aops i then 0 else 1)) * (aops.length + 1) + i
def insK (k : Nat → Nat) (i : Nat) : List Nat → List Nat
  | [] => [i]
  | j :: r => if k i < k j then i :: j :: r else j :: insK k i r
def rowsOf (aops : List AOper) (T : List (List Nat)) : List Nat → List Nat → Option (List DRow)
  | _, [] => some []
  | seen, i :: r => match aops[i]?, rowsOf aops T (i :: seen) r with
    | some o, some l => some ({ i := i, d := { o := o, fl := o.op.floats, st := !o.op.floats && seen.any (fun j => !(ancT T i).contains j && (match aops[j]? with
        | some e => e.op.floats && e.op.reads
        | none => false)) } } :: l)
    | _, _ => none
def trD (P : Program) (n : Nat) (ops : Array Oper) : Option (List DOp) :=
  match trOpers P n ops ops.toList with
  | some aops => match rowsOf aops (ancsOf ops.toList []) [] ((List.range ops.size).foldl (fun l i => insK (keyOf aops (ancsOf ops.toList [])) i l) []) with
    | some L => if cAll ops (ancsOf ops.toList []) L = true ∧ L.length ≤ ops.size then some (L.map (·.d)) else none
    | none => none
  | none => none

section
variable {P : Program} {D : List Deferred} {n : Nat} {ops : Array Oper} {Q : Exit → Act → World → Prop}

theorem trOpers_get : ∀ (l : List Oper) (aops : List AOper), trOpers P n ops l = some aops → ∀ (i : Nat) (ao : AOper), aops[i]? = some ao → ∃ o, l[i]? = some o ∧ trOper P n ops o = some ao
  | [], aops, h, i, ao, hi => by simp only [trOpers] at h; injection h with h; subst h; simp at hi
  | o :: r, aops, h, i, ao, hi => by
    simp only [trOpers] at h
    split at h
    · rename_i a l h1 h2
      injection h with h; subst h
      cases i with
      | zero => simp at hi; subst hi; exact ⟨o, by simp, h1⟩
      | succ i => simp at hi; obtain ⟨o', h3, h4⟩ := trOpers_get r l h2 i ao hi; exact ⟨o', by simpa using h3, h4⟩
    · cases h
theorem rowsOf_get {aops : List AOper} {T : List (List Nat)} : ∀ (is seen : List Nat) (L : List DRow), rowsOf aops T seen is = some L → ∀ p ∈ L, aops[p.i]? = some p.d.o
  | [], seen, L, h, p, hp => by simp only [rowsOf] at h; injection h with h; subst h; simp at hp
  | i :: r, seen, L, h, p, hp => by
    simp only [rowsOf] at h
    split at h
    · rename_i o l h1 h2
      injection h with h; subst h
      rcases List.mem_cons.1 hp with rfl | hp
      · exact h1
      · exact rowsOf_get r _ l h2 p hp
    · cases h

theorem trOper_spec {o : Oper} {d : AOper} (h : trOper P n ops o = some d) : trOp P o.op = some d.op ∧ d.dst = o.dst ∧ inB n o.dst = true ∧ trGuard ops o.guard = some d.g ∧ inG n d.g = true := by
  unfold trOper at h
  split at h
  · rename_i ao g h1 h2
    split at h
    · rename_i hh
      injection h with h; subst h
      exact ⟨h1, rfl, hh.1, h2, hh.2⟩
    · cases h
  · cases h
theorem guard_ok {o : Oper} {d : AOper} (h : trOper P n ops o = some d) {E : Emb} {env : AEnv} {a : Act} (he : EnvR E env a) (ha : a.tmps.size = n) :
    (d.g = none → Region.wanted o (yielded ops a.tmps) = true) ∧ (∀ s want b, d.g = some (s, want) → env s = .bool b → Region.wanted o (yielded ops a.tmps) = (b == want)) := by
  obtain ⟨_, _, _, hg, hin⟩ := trOper_spec h
  cases hg0 : o.guard with
  | none =>
    rw [hg0] at hg
    simp only [trGuard] at hg
    injection hg with hg
    refine ⟨fun _ => by simp [Region.wanted, hg0], fun s want b e => ?_⟩
    rw [← hg] at e; cases e
  | some jw =>
    obtain ⟨j, want⟩ := jw
    rw [hg0] at hg
    simp only [trGuard] at hg
    split at hg
    · rename_i oj hj
      split at hg
      · rename_i t hdst
        injection hg with hg
        refine ⟨fun e => (by rw [← hg] at e; cases e), fun s want' b e hb => ?_⟩
        rw [← hg] at e
        injection e with e; injection e with e1 e2; subst e1; subst e2
        rw [← hg] at hin
        have hd2 : t < a.tmps.size := by rw [ha]; simpa [inG] using hin
        have hy : yielded ops a.tmps j = some b := by
          have := he t
          rw [hb] at this
          simp only [TV_bool] at this
          rw [Array.getD_eq_getD_getElem?, Array.getElem?_eq_getElem hd2] at this
          simp only [Option.getD_some] at this
          simp [yielded, hj, hdst, Array.getElem?_eq_getElem hd2, this]
        simp only [Region.wanted, hg0, hy]
        cases b <;> cases want <;> rfl
      · cases hg
    · cases hg

theorem stepF {i : Nat} {o : Oper} {d : AOper} (hi : ops[i]? = some o) (ht : trOper P n ops o = some d) (hf : d.op.floats = true) {E : Emb} {A : Heap} {w : World} {env : AEnv} {a : Act} (hR : Rep E A w) (he : EnvR E env a) (ha : a.tmps.size = n)
    {v0 : AV} (G : gF P d env A (fun v => v = v0)) {KK : Act → World → Prop} (hn : ∀ c, TV E v0 c → KK (a.put o.dst c) w) : wpOp P ops Q i KK a w := by
  obtain ⟨hop, hdst, _, _, _⟩ := trOper_spec ht
  obtain ⟨g1, g2⟩ := guard_ok ht he ha
  have run : fl P d.op env A (fun v => v = v0) → o.wp P a w KK Q := by
    intro h
    obtain ⟨v, c, hv, hr, hT⟩ := fl_ok hop hf (fun sz x i e => fl_nonil (K := _) (by rw [← e]; exact h)) hR he h
    subst hv
    unfold Oper.wp
    rw [hr]
    exact hn c hT
  unfold wpOp
  rw [hi]
  simp only
  unfold gF at G
  cases hg : d.g with
  | none =>
    rw [hg] at G
    rw [if_pos (g1 hg)]
    exact .inl (run G)
  | some sw =>
    obtain ⟨s, want⟩ := sw
    rw [hg] at G
    simp only at G
    split at G
    · rename_i b hb
      have hw := g2 s want b hg hb
      by_cases e : b = want
      · rw [if_pos (by rw [hw]; simpa using e)]
        exact .inl (run (G.1 e))
      · rw [if_neg (by rw [hw]; simpa using e)]
        have := G.2 (by cases b <;> cases want <;> simp_all)
        subst this
        exact hn undef (TV_undef _ _)
    · exact G.elim
theorem stepC {i : Nat} {o : Oper} {d : AOper} (hi : ops[i]? = some o) (ht : trOper P n ops o = some d) {E : Emb} {A : Heap} {w : World} {env : AEnv} {a : Act} (hR : Rep E A w) (he : EnvR E env a) (ha : a.tmps.size = n)
    {K : AV → Heap → Prop} (G : gC P d env A K) {KK : Act → World → Prop} (hn : ∀ v A' E' w' c, K v A' → Rep E' A' w' → E.Le E' → Same w w' → TV E' v c → KK (a.put o.dst c) w') : wpOp P ops Q i KK a w := by
  obtain ⟨hop, hdst, _, _, _⟩ := trOper_spec ht
  obtain ⟨g1, g2⟩ := guard_ok ht he ha
  have run : aop P d.op env A K (fun _ _ => False) → o.wp P a w KK Q := fun h =>
    oper_ok hop hR he h hn (fun _ _ _ _ _ hk => hk.elim)
  unfold wpOp
  rw [hi]
  simp only
  unfold gC at G
  cases hg : d.g with
  | none =>
    rw [hg] at G
    rw [if_pos (g1 hg)]
    exact .inl (run G)
  | some sw =>
    obtain ⟨s, want⟩ := sw
    rw [hg] at G
    simp only at G
    split at G
    · rename_i b hb
      have hw := g2 s want b hg hb
      by_cases e : b = want
      · rw [if_pos (by rw [hw]; simpa using e)]
        exact .inl (run (G.1 e))
      · rw [if_neg (by rw [hw]; simpa using e)]
        exact hn .undef A E w undef (G.2 (by cases b <;> cases want <;> simp_all)) hR (Emb.Le.refl E) (Same.refl w) (TV_undef _ _)
    · exact G.elim

theorem relAll_pw {T : List (List Nat)} : ∀ {L : List DRow}, relAll T L = true → L.Pairwise (fun p q => relT T p q = true)
  | [], _ => .nil
  | p :: r, h => by
    simp only [relAll, Bool.and_eq_true, List.all_eq_true] at h
    exact .cons h.1 (relAll_pw h.2)
theorem cPre_spec : ∀ {L : List DRow} {seen : List Nat}, cPre ops seen L = true → ∀ L1 p L2, L = L1 ++ p :: L2 → ∃ o, ops[p.i]? = some o ∧ ∀ e ∈ o.after, Region.binds .any e = true → e.on ∈ seen ∨ ∃ q ∈ L1, q.i = e.on
  | [], seen, h, L1, p, L2, e => by simp at e
  | q :: r, seen, h, L1, p, L2, e => by
    simp only [cPre, Bool.and_eq_true] at h
    obtain ⟨h1, h2⟩ := h
    cases L1 with
    | nil =>
      simp at e
      obtain ⟨rfl, rfl⟩ := e
      split at h1
      · rename_i o ho
        refine ⟨o, ho, fun e he hb => .inl ?_⟩
        simp only [List.all_eq_true] at h1
        have := h1 e (by simpa using he)
        simpa [hb] using this
      · cases h1
    | cons q' L1 =>
      simp at e
      obtain ⟨rfl, e⟩ := e
      obtain ⟨o, ho, hh⟩ := cPre_spec h2 L1 p L2 e
      refine ⟨o, ho, fun e he hb => ?_⟩
      rcases hh e he hb with h3 | ⟨x, hx, hxe⟩
      · rcases List.mem_cons.1 h3 with h3 | h3
        · exact .inr ⟨q, by simp, h3.symm⟩
        · exact .inl h3
      · exact .inr ⟨x, by simp [hx], hxe⟩

theorem getD_tf {listed : Array Bool} {i : Nat} (h : i < listed.size) : listed.getD i true = listed.getD i false := by simp [h]

theorem dwp {T : List (List Nat)} {L : List DRow} (hc : cAll ops T L = true) (hL : ∀ p ∈ L, ∃ o, ops[p.i]? = some o ∧ trOper P n ops o = some p.d.o) {K : AEnv → Heap → Prop} {E0 : Emb} {w0 : World}
    (hK : ∀ env A E a w, K env A → Rep E A w → EnvR E env a → E0.Le E → Same w0 w → a.tmps.size = n → a.defers = D → Q .normal a w) :
    ∀ (fuel : Nat) (listed : Array Bool) (us : List DRow) (env : AEnv) (A : Heap) (E : Emb) (a : Act) (w : World),
      us = L.filter (fun p => !listed.getD p.i true) → listed.size = ops.size → (∀ i < ops.size, listed.getD i false = true → ∀ j ∈ ancT T i, listed.getD j false = true) → us.length ≤ fuel →
      awD P (us.map (·.d)) K env A → Rep E A w → EnvR E env a → E0.Le E → Same w0 w → a.tmps.size = n → a.defers = D → wpAny P .any ops Q fuel listed a w := by
  simp only [cAll, Bool.and_eq_true, List.all_eq_true, List.mem_range, List.any_eq_true, beq_iff_eq] at hc
  obtain ⟨hrel, hanc, hpre, hfl⟩ := hc
  have hpw := relAll_pw hrel
  have done : ∀ (listed : Array Bool) (us : List DRow) (env : AEnv) (A : Heap) (E : Emb) (a : Act) (w : World), us = [] → us = L.filter (fun p => !listed.getD p.i true) → listed.size = ops.size →
      awD P (us.map (·.d)) K env A → Rep E A w → EnvR E env a → E0.Le E → Same w0 w → a.tmps.size = n → a.defers = D → Region.ready .any ops listed = [] ∧ Q .normal a w := by
    intro listed us env A E a w e hus hsz h hR he hE hS ha hd
    subst e
    refine ⟨?_, hK env A E a w h hR he hE hS ha hd⟩
    cases hr : Region.ready .any ops listed with
    | nil => rfl
    | cons i r =>
      exfalso
      have hm : i ∈ Region.ready .any ops listed := by rw [hr]; simp
      obtain ⟨hi, o, ho, _⟩ := mem_ready.1 hm
      have hlt := (Array.getElem?_eq_some_iff.1 ho).1
      obtain ⟨p, hp, hpi⟩ := (hanc i hlt).2
      have : p ∈ L.filter (fun p => !listed.getD p.i true) := List.mem_filter.2 ⟨hp, by rw [hpi, hi]; rfl⟩
      rw [← hus] at this
      simp at this
  intro fuel
  induction fuel with
  | zero =>
    intro listed us env A E a w hus hsz hcl hlen h hR he hE hS ha hd
    exact done listed us env A E a w (List.length_eq_zero_iff.1 (by omega)) hus hsz h hR he hE hS ha hd
  | succ fuel ih =>
    intro listed us env A E a w hus hsz hcl hlen h hR he hE hS ha hd
    refine ⟨fun hr => ?_, fun i him => ?_⟩
    · cases hu : us with
      | nil => exact (done listed us env A E a w hu hus hsz h hR he hE hS ha hd).2
      | cons p us' =>
        exfalso
        rw [hu] at hus
        obtain ⟨L1, L2, hLL, hL1, hpf, _⟩ := List.filter_eq_cons_iff.1 hus.symm
        obtain ⟨o, ho, hh⟩ := cPre_spec hpre L1 p L2 hLL
        have : p.i ∈ Region.ready .any ops listed := by
          refine mem_ready.2 ⟨by simpa using hpf, o, ho, fun e hem hb => ?_⟩
          rcases hh e hem hb with h3 | ⟨q, hq, hqe⟩
          · simp at h3
          · have := hL1 q hq
            obtain ⟨oq, hoq, _⟩ := hL q (by rw [hLL]; simp [hq])
            have hlt := (Array.getElem?_eq_some_iff.1 hoq).1
            rw [← hqe, ← getD_tf (by omega)]
            simpa using this
        rw [hr] at this
        simp at this
    · obtain ⟨hi, o, ho, haf⟩ := mem_ready.1 him
      have hlt := (Array.getElem?_eq_some_iff.1 ho).1
      obtain ⟨p, hp, hpi⟩ := (hanc i hlt).2
      have hpu : p ∈ us := by rw [hus]; exact List.mem_filter.2 ⟨hp, by rw [hpi, hi]; rfl⟩
      obtain ⟨pre, post, hsplit⟩ := List.append_of_mem hpu
      have hancL : ∀ j ∈ ancT T i, listed.getD j false = true := by
        intro j hj
        have h1 := (hanc i hlt).1
        simp only [cAnc, ho, List.all_eq_true, List.any_eq_true, Bool.and_eq_true, Bool.or_eq_true, beq_iff_eq] at h1
        obtain ⟨e, hem, hb, he⟩ := h1 j hj
        have hel := haf e (by simpa using hem) hb
        have hes : e.on < ops.size := by
          rw [← hsz]
          rcases Nat.lt_or_ge e.on listed.size with h' | h'
          · exact h'
          · simp [Array.getElem?_eq_none h'] at hel
        rcases he with he | he
        · rw [← he]; exact hel
        · exact hcl e.on hes hel j (by simpa using he)
      have husub : us.Pairwise (fun p q => relT T p q = true) := by rw [hus]; exact hpw.filter _
      rw [hsplit, List.pairwise_append] at husub
      obtain ⟨_, hpost, hcross⟩ := husub
      have hun : ∀ e ∈ us, e ∈ L ∧ listed.getD e.i true = false := fun e he => by
        rw [hus] at he
        have := List.mem_filter.1 he
        exact ⟨this.1, by simpa using this.2⟩
      have hpreR : ∀ e ∈ pre, e.i ≠ i ∧ e.d.fl = true ∧ e.d.o.op.floats = true ∧ indep p.d.o e.d.o = true ∧ (p.d.fl = true ∨ p.d.st = true ∨ e.d.o.op.reads = false) := by
        intro e hem
        have h1 := hcross e hem p (by simp)
        obtain ⟨heL, hel⟩ := hun e (by rw [hsplit]; simp [hem])
        simp only [relT, Bool.and_eq_true, Bool.or_eq_true, bne_iff_ne, ne_eq, Bool.not_eq_true', hpi] at h1
        obtain ⟨hne, h1 | h1⟩ := h1
        · have h2 := hancL e.i (by simpa using h1)
          obtain ⟨oe, hoe, _⟩ := hL e heL
          have hle := (Array.getElem?_eq_some_iff.1 hoe).1
          rw [getD_tf (by omega)] at hel
          rw [hel] at h2; cases h2
        · exact ⟨hne, h1.1.1, by rw [← hfl e heL]; exact h1.1.1, h1.1.2, by
            rcases h1.2 with (h | h) | h
            · exact .inl h
            · exact .inr (.inl h)
            · exact .inr (.inr h)⟩
      have hpostR : ∀ e ∈ post, e.i ≠ i := fun e hem hei => by
        have h1 := List.rel_of_pairwise_cons hpost hem
        simp [relT, hpi, hei] at h1
      obtain ⟨o', ho', htr⟩ := hL p hp
      rw [hpi, ho] at ho'
      injection ho' with ho'; subst ho'
      have hus' : pre ++ post = L.filter (fun p => !(listed.setIfInBounds i true).getD p.i true) := by
        have hset : ∀ q : DRow, (!(listed.setIfInBounds i true).getD q.i true) = ((!listed.getD q.i true) && q.i != i) := by
          intro q
          by_cases hqi : q.i = i
          · rw [hqi]
            have : i < listed.size := by omega
            simp [this]
          · rw [getD_set_ne true (Ne.symm hqi)]; simp [hqi]
        have : L.filter (fun p => !(listed.setIfInBounds i true).getD p.i true) = (L.filter (fun p => !listed.getD p.i true)).filter (fun q => q.i != i) := by
          rw [List.filter_filter]
          congr 1
          funext q
          rw [hset q, Bool.and_comm]
        rw [this, ← hus, hsplit, List.filter_append, List.filter_cons]
        have e1 : pre.filter (fun q => q.i != i) = pre := List.filter_eq_self.2 fun e he => by simpa using (hpreR e he).1
        have e2 : post.filter (fun q => q.i != i) = post := List.filter_eq_self.2 fun e he => by simpa using hpostR e he
        rw [e1, e2]
        simp [hpi]
      have hcl' : ∀ k < ops.size, (listed.setIfInBounds i true).getD k false = true → ∀ j ∈ ancT T k, (listed.setIfInBounds i true).getD j false = true := by
        intro k hk hkl j hj
        by_cases hki : k = i
        · subst hki; exact getD_set_true (hancL j hj)
        · rw [getD_set_ne false (Ne.symm hki)] at hkl
          exact getD_set_true (hcl k hk hkl j hj)
      have hlen' : (pre ++ post).length ≤ fuel := by rw [hsplit] at hlen; simp at hlen ⊢; omega
      have hmap : us.map (·.d) = pre.map (·.d) ++ p.d :: post.map (·.d) := by rw [hsplit]; simp
      rw [hmap] at h
      obtain ⟨_, hdst, hinb, _, _⟩ := trOper_spec htr
      cases hpf : p.d.fl with
      | true =>
        have hpo : p.d.o.op.floats = true := by rw [← hfl p hp]; exact hpf
        obtain ⟨v0, G, h2⟩ := pull_fl hpf hpo (pre.map (·.d)) env (fun e he => by
          obtain ⟨q, hq, rfl⟩ := List.mem_map.1 he
          obtain ⟨_, a1, a2, a3, _⟩ := hpreR q hq
          exact ⟨a1, a2, a3⟩) h
        refine stepF ho htr hpo hR he ha (G _ rfl) (fun c hT => ?_)
        obtain ⟨p1, p2, p3⟩ := put_ok he ha hinb hT
        rw [hdst] at h2
        exact ih _ (pre ++ post) _ A E _ w hus' (by simpa using hsz) hcl' hlen' (by rw [List.map_append]; exact h2) hR p1 hE hS p2 (p3.trans hd)
      | false =>
        have hpo : p.d.o.op.floats = false := by rw [← hfl p hp]; exact hpf
        have h2 := pull_ch hpf hpo (pre.map (·.d)) env (fun e he => by
          obtain ⟨q, hq, rfl⟩ := List.mem_map.1 he
          obtain ⟨_, a1, a2, a3, a4⟩ := hpreR q hq
          exact ⟨a1, a2, a3, by rw [hpf] at a4; simpa using a4⟩) h
        refine stepC ho htr hR he ha h2 (fun v A' E' w' c hk hR' hE' hS' hT => ?_)
        obtain ⟨p1, p2, p3⟩ := put_ok (he.mono hE') ha hinb hT
        have h3 := hk.2
        rw [hdst] at h3
        exact ih _ (pre ++ post) _ A' E' _ w' hus' (by simpa using hsz) hcl' hlen' (by rw [List.map_append]; exact h3) hR' p1 (hE.trans hE') (hS.trans hS') p2 (p3.trans hd)

theorem trD_ok (hm : P.follows .mixedOrders = true) {ds : List DOp} (ht : trD P n ops = some ds) {K : AEnv → Heap → Prop} {E0 : Emb} {w0 : World}
    (hK : ∀ env A E a w, K env A → Rep E A w → EnvR E env a → E0.Le E → Same w0 w → a.tmps.size = n → a.defers = D → Q .normal a w)
    {env : AEnv} {A : Heap} {E : Emb} {a : Act} {w : World} (h : awD P ds K env A) (hR : Rep E A { w with drawn := w.drawn + 1 }) (he : EnvR E env a) (hE : E0.Le E) (hS : Same w0 { w with drawn := w.drawn + 1 }) (ha : a.tmps.size = n) (hd : a.defers = D) {id : Nat} :
    (Code.region id ops true).wp P Q a w := by
  unfold trD at ht
  split at ht
  · rename_i aops hao
    split at ht
    · rename_i L hLr
      split at ht
      · rename_i hc
        injection ht with ht; subst ht
        have hL : ∀ p ∈ L, ∃ o, ops[p.i]? = some o ∧ trOper P n ops o = some p.d.o := fun p hp => by
          obtain ⟨o, h1, h2⟩ := trOpers_get _ _ hao p.i p.d.o (rowsOf_get _ _ _ hLr p hp)
          exact ⟨o, by simpa using h1, h2⟩
        refine wp_region_any hm ?_
        refine dwp hc.1 hL hK ops.size _ L env A E a _ ?_ (by simp) ?_ hc.2 h hR he hE hS ha hd
        · rw [eq_comm, List.filter_eq_self]
          intro p hp
          obtain ⟨o, ho, _⟩ := hL p hp
          have := (Array.getElem?_eq_some_iff.1 ho).1
          simp [this]
        · intro i hi h1
          simp [hi] at h1
      · cases ht
    · cases ht
  · cases ht
end
end AVL
