/- A region whose order is open does what its operations do in the order that awD has. -/
import Derived.Test.YtfdckjliinpjiaaVs
namespace AVL
open Go
set_option linter.unusedSimpArgs false
set_option linter.unusedVariables false

structure DRow where
  i : Nat
  d : DOp
def ancT (T : List (List Nat)) (i : Nat) : List Nat := T.getD i []
def AOp.sure : AOp → Bool
  | .alloc .. => true
  | _ => false
def lateO (o : AOper) : Bool := o.op.late && o.g.isNone && o.dst.isSome
def lateQ (p : DRow) : Bool := lateO p.d.o
def rdOK (p q : DRow) : Bool := !p.d.o.op.reads || (q.d.st && (match q.d.ks with
  | none => true
  | some l => match p.d.o.op.rds with
    | some ns => ns.all l.contains
    | none => false))
def relT (T : List (List Nat)) (p q : DRow) : Bool :=
  p.i != q.i && ((ancT T q.i).contains p.i || (indep q.d.o p.d.o && (lateQ q || (p.d.fl && (q.d.fl || rdOK p q)))))
def kp1 (p e : DRow) : Bool := !p.d.o.op.reads || !hasD p.d.o.uses e.d.o.dst
/-- What is looked at is not written by what comes behind. -/
def kpAll : List DRow → Bool
  | [] => true
  | p :: r => kp1 p p && (r.all (kp1 p) && kpAll r)
def cKeep : List DRow → List DRow → Bool
  | _, [] => true
  | seen, q :: r => (q.d.ks.isNone || kpAll seen) && cKeep (seen ++ [q]) r
def relAll (T : List (List Nat)) : List DRow → Bool
  | [] => true
  | p :: r => r.all (relT T p) && relAll T r
/-- Of a maker that may run early: who uses it waits for all that stands before it; those are told of it; no other maker uses it. -/
def cLate (T : List (List Nat)) : List DRow → List DRow → Bool
  | _, [] => true
  | seen, q :: r => (!lateQ q || seen.all (fun e => e.d.fl || (ancT T q.i).contains e.i ||
      ((q.d.o.op.sure || hasD e.d.ls q.d.o.dst) && r.all (fun p => !(ancT T p.i).contains q.i || (ancT T p.i).contains e.i)))) && cLate T (q :: seen) r
def cUse (L : List DRow) : Bool := L.all fun q => !lateQ q || ((!hasD q.d.o.op.uses q.d.o.dst && L.all fun e => !ksHas e.d.ks q.d.o.dst) && L.all fun e => e.d.ls.isEmpty || L.all fun p => !p.d.o.op.late || !hasD e.d.ls p.d.o.dst || !hasD p.d.o.op.uses q.d.o.dst)
def cAnc (ops : Array Oper) (T : List (List Nat)) (i : Nat) : Bool :=
  match ops[i]? with
  | some o => (ancT T i).all fun j => o.after.toList.any fun e => Region.binds .any e && (e.on == j || (ancT T e.on).contains j)
  | none => false
def cPre (ops : Array Oper) : List Nat → List DRow → Bool
  | _, [] => true
  | seen, p :: r => (match ops[p.i]? with
    | some o => o.after.toList.all fun e => !Region.binds .any e || seen.contains e.on
    | none => false) && cPre ops (p.i :: seen) r
def cAll (ops : Array Oper) (T : List (List Nat)) (L : List DRow) : Bool :=
  relAll T L && ((List.range ops.size).all (fun i => cAnc ops T i && L.any (fun p => p.i == i)) && ((cPre ops [] L && (cLate T [] L && (cUse L && cKeep [] L))) && L.all fun p => p.d.fl == p.d.o.op.floats))

/-! the order -/
def addAll : List Nat → List Nat → List Nat
  | [], l => l
  | x :: r, l => addAll r (if l.contains x then l else x :: l)
def ancsOf : List Oper → List (List Nat) → List (List Nat)
  | [], T => T
  | o :: r, T => ancsOf r (T ++ [o.after.toList.foldl (fun acc e => if Region.binds .any e then addAll (e.on :: ancT T e.on) acc else acc) []])
def chained (lt : Bool) (aops : List AOper) (i : Nat) : Bool := match aops[i]? with
  | some o => !o.op.floats && (lt || !lateO o)
  | none => false
def lateAt (aops : List AOper) (i : Nat) : Bool := match aops[i]? with
  | some o => lateO o
  | none => false
def keyOf (lt : Bool) (aops : List AOper) (T : List (List Nat)) (i : Nat) : Nat :=
  ((((ancT T i).filter (chained lt aops)).length + (if chained lt aops i then 1 else 0)) * 2 + (if chained lt aops i then 0 else 1)) * (aops.length + 1) + i
def insK (k : Nat → Nat) (i : Nat) : List Nat → List Nat
  | [] => [i]
  | j :: r => if k i < k j then i :: j :: r else j :: insK k i r
def emitL (T : List (List Nat)) (lates : List Nat) : List Nat → List Nat → List Nat
  | [], seen => lates.filter (fun q => !seen.contains q)
  | d :: r, seen => lates.filter (fun q => !seen.contains q && (ancT T d).contains q) ++ d :: emitL T lates r (lates.filter (fun q => !seen.contains q && (ancT T d).contains q) ++ seen)
def sortK (k : Nat → Nat) (l : List Nat) : List Nat := l.foldl (fun l i => insK k i l) []
def orders (aops : List AOper) (T : List (List Nat)) (m : Nat) : List (List Nat) :=
  let all := List.range m
  let lates := all.filter (lateAt aops)
  let base := all.filter (fun i => !lateAt aops i)
  [sortK (keyOf true aops T) all, emitL T lates (sortK (keyOf true aops T) base) [], emitL T lates (sortK (keyOf false aops T) base) []]
def lsOf (T : List (List Nat)) (i : Nat) (l : List DRow) : List Nat :=
  l.filterMap fun q => if lateQ q && !q.d.o.op.sure && !(ancT T q.i).contains i then q.d.o.dst else none
def stOf (aops : List AOper) (T : List (List Nat)) (seen : List Nat) (i : Nat) (o : AOper) : Bool :=
  !o.op.floats && !lateO o && seen.any (fun j => !(ancT T i).contains j && (match aops[j]? with
    | some e => e.op.floats && e.op.reads
    | none => false))
/-- The slots that are looked up by what may come later; where that can be told. -/
def ksOf (aops : List AOper) (T : List (List Nat)) (seen : List Nat) (i : Nat) : Option (List Nat) :=
  let es := (seen.reverse.filterMap fun j => (aops[j]?).map fun o => (⟨j, ⟨o, o.op.floats, false, none, []⟩⟩ : DRow))
  if kpAll es then (es.filter fun e => e.d.fl && e.d.o.op.reads && !(ancT T i).contains e.i).foldl (fun acc e => match acc, e.d.o.op.rds with
    | some l, some ns => some (ns ++ l)
    | _, _ => none) (some []) else none
def rowsOf (aops : List AOper) (T : List (List Nat)) : List Nat → List Nat → Option (List DRow)
  | _, [] => some []
  | seen, i :: r => match aops[i]?, rowsOf aops T (i :: seen) r with
    | some o, some l => some (⟨i, ⟨o, o.op.floats, stOf aops T seen i o, if stOf aops T seen i o then ksOf aops T seen i else none, if o.op.floats then [] else lsOf T i l⟩⟩ :: l)
    | _, _ => none
def pickL (ops : Array Oper) (aops : List AOper) (T : List (List Nat)) : List (List Nat) → Option (List DRow)
  | [] => none
  | is :: r => match rowsOf aops T [] is with
    | some L => if cAll ops T L = true ∧ L.length ≤ ops.size then some L else pickL ops aops T r
    | none => pickL ops aops T r
def trD (P : Program) (n : Nat) (ops : Array Oper) : Option (List DOp) :=
  match trOpers P n ops ops.toList with
  | some aops => match pickL ops aops (ancsOf ops.toList []) (orders aops (ancsOf ops.toList []) ops.size) with
    | some L => some (L.map (·.d))
    | none => none
  | none => none

section
variable {P : Program} {D : List Deferred} {n : Nat} {ops : Array Oper} {Q : Exit → Act → World → Prop}

theorem trOpers_get : ∀ (l : List Oper) (aops : List AOper), trOpers P n ops l = some aops → ∀ (i : Nat) (ao : AOper), aops[i]? = some ao → ∃ o, l[i]? = some o ∧ trOper P n ops o = some ao
  | [], aops, h, i, ao, hi => by simp only [trOpers] at h; injection h with h; subst h; simp at hi
  | o :: r, aops, h, i, ao, hi => by
    simp only [trOpers] at h
    split at h
    · rename_i a l h1 h2
      injection h with h; subst h
      cases i with
      | zero => simp at hi; subst hi; exact ⟨o, by simp, h1⟩
      | succ i => simp at hi; obtain ⟨o', h3, h4⟩ := trOpers_get r l h2 i ao hi; exact ⟨o', by simpa using h3, h4⟩
    · cases h
theorem rowsOf_get {aops : List AOper} {T : List (List Nat)} : ∀ (is seen : List Nat) (L : List DRow), rowsOf aops T seen is = some L → ∀ p ∈ L, aops[p.i]? = some p.d.o
  | [], seen, L, h, p, hp => by simp only [rowsOf] at h; injection h with h; subst h; simp at hp
  | i :: r, seen, L, h, p, hp => by
    simp only [rowsOf] at h
    split at h
    · rename_i o l h1 h2
      injection h with h; subst h
      rcases List.mem_cons.1 hp with rfl | hp
      · exact h1
      · exact rowsOf_get r _ l h2 p hp
    · cases h

theorem pickL_spec {aops : List AOper} {T : List (List Nat)} : ∀ (l : List (List Nat)) (L : List DRow), pickL ops aops T l = some L → ∃ is, rowsOf aops T [] is = some L ∧ cAll ops T L = true ∧ L.length ≤ ops.size
  | [], L, h => by cases h
  | is :: r, L, h => by
    simp only [pickL] at h
    split at h
    · rename_i L' hL
      split at h
      · rename_i hc; injection h with h; subst h; exact ⟨is, hL, hc.1, hc.2⟩
      · exact pickL_spec r L h
    · exact pickL_spec r L h

theorem trOper_spec {o : Oper} {d : AOper} (h : trOper P n ops o = some d) : trOp P o.op = some d.op ∧ d.dst = o.dst ∧ inB n o.dst = true ∧ trGuard ops o.guard = some d.g ∧ inG n d.g = true := by
  unfold trOper at h
  split at h
  · rename_i ao g h1 h2
    split at h
    · rename_i hh
      injection h with h; subst h
      exact ⟨h1, rfl, hh.1, h2, hh.2⟩
    · cases h
  · cases h
theorem guard_ok {o : Oper} {d : AOper} (h : trOper P n ops o = some d) {E : Emb} {env : AEnv} {a : Act} (he : EnvR E env a) (ha : a.tmps.size = n) :
    (d.g = none → Region.wanted o (yielded ops a.tmps) = true) ∧ (∀ s want b, d.g = some (s, want) → env s = .bool b → Region.wanted o (yielded ops a.tmps) = (b == want)) ∧
    (∀ s want, d.g = some (s, want) → env s = .undef → Region.wanted o (yielded ops a.tmps) = false) := by
  obtain ⟨_, _, _, hg, hin⟩ := trOper_spec h
  cases hg0 : o.guard with
  | none =>
    rw [hg0] at hg
    simp only [trGuard] at hg
    injection hg with hg
    refine ⟨fun _ => by simp [Region.wanted, hg0], fun s want b e => ?_, fun s want e => ?_⟩ <;> (rw [← hg] at e; cases e)
  | some jw =>
    obtain ⟨j, want⟩ := jw
    rw [hg0] at hg
    simp only [trGuard] at hg
    split at hg
    · rename_i oj hj
      split at hg
      · rename_i t hdst
        injection hg with hg
        refine ⟨fun e => (by rw [← hg] at e; cases e), fun s want' b e hb => ?_, fun s want' e hb => ?_⟩
        rotate_left
        · rw [← hg] at e
          injection e with e; injection e with e1 e2; subst e1; subst e2
          rw [← hg] at hin
          have hd2 : t < a.tmps.size := by rw [ha]; simpa [inG] using hin
          have hy : yielded ops a.tmps j = none := by
            have := he t
            rw [hb] at this
            have := TV_undef_eq this
            rw [Array.getD_eq_getD_getElem?, Array.getElem?_eq_getElem hd2] at this
            simp only [Option.getD_some] at this
            simp [yielded, hj, hdst, Array.getElem?_eq_getElem hd2, this, undef]
          simp [Region.wanted, hg0, hy]
        rw [← hg] at e
        injection e with e; injection e with e1 e2; subst e1; subst e2
        rw [← hg] at hin
        have hd2 : t < a.tmps.size := by rw [ha]; simpa [inG] using hin
        have hy : yielded ops a.tmps j = some b := by
          have := he t
          rw [hb] at this
          simp only [TV_bool] at this
          rw [Array.getD_eq_getD_getElem?, Array.getElem?_eq_getElem hd2] at this
          simp only [Option.getD_some] at this
          simp [yielded, hj, hdst, Array.getElem?_eq_getElem hd2, this]
        simp only [Region.wanted, hg0, hy]
        cases b <;> cases want <;> rfl
      · cases hg
    · cases hg

theorem stepF {i : Nat} {o : Oper} {d : AOper} (hi : ops[i]? = some o) (ht : trOper P n ops o = some d) (hf : d.op.floats = true) {E : Emb} {A : Heap} {w : World} {env : AEnv} {a : Act} (hR : Rep E A w) (he : EnvR E env a) (ha : a.tmps.size = n)
    {v0 : AV} (G : gF P d env A (fun v => v = v0)) {KK : Act → World → Prop} (hn : ∀ c, TV E v0 c → KK (a.put o.dst c) w) : wpOp P ops Q i KK a w := by
  obtain ⟨hop, hdst, _, _, _⟩ := trOper_spec ht
  obtain ⟨g1, g2, g3⟩ := guard_ok ht he ha
  have run : fl P d.op env A (fun v => v = v0) → o.wp P a w KK Q := by
    intro h
    obtain ⟨v, c, hv, hr, hT⟩ := fl_ok hop hf (fun sz x i e => fl_nonil (K := _) (by rw [← e]; exact h)) hR he h
    subst hv
    unfold Oper.wp
    rw [hr]
    exact hn c hT
  unfold wpOp
  rw [hi]
  simp only
  unfold gF at G
  cases hg : d.g with
  | none =>
    rw [hg] at G
    rw [if_pos (g1 hg)]
    exact .inl (run G)
  | some sw =>
    obtain ⟨s, want⟩ := sw
    rw [hg] at G
    simp only at G
    split at G
    · rename_i b hb
      have hw := g2 s want b hg hb
      by_cases e : b = want
      · rw [if_pos (by rw [hw]; simpa using e)]
        exact .inl (run (G.1 e))
      · rw [if_neg (by rw [hw]; simpa using e)]
        have := G.2 (by cases b <;> cases want <;> simp_all)
        subst this
        exact hn undef (TV_undef _ _)
    · rename_i hb
      rw [if_neg (by rw [g3 s want hg hb]; simp)]
      have G' : AV.undef = v0 := G
      subst G'
      exact hn undef (TV_undef _ _)
    · exact G.elim
theorem stepC {i : Nat} {o : Oper} {d : AOper} (hi : ops[i]? = some o) (ht : trOper P n ops o = some d) {E : Emb} {A : Heap} {w : World} {env : AEnv} {a : Act} (hR : Rep E A w) (he : EnvR E env a) (ha : a.tmps.size = n)
    {K Kp : AV → Heap → Prop} (G : gC P d env A K Kp) {KK : Act → World → Prop} (hn : ∀ v A' E' w' c, K v A' → Rep E' A' w' → E.Le E' → Same w w' → TV E' v c → KK (a.put o.dst c) w')
    (hp : ∀ v A' E' w' c, Kp v A' → Rep E' A' w' → E.Le E' → Same w w' → TV E' v c → Q (.panic [{ v := c, recovered := false }]) a w') : wpOp P ops Q i KK a w := by
  obtain ⟨hop, hdst, _, _, _⟩ := trOper_spec ht
  obtain ⟨g1, g2, g3⟩ := guard_ok ht he ha
  have run : aop P d.op env A K Kp → o.wp P a w KK Q := fun h =>
    oper_ok hop hR he h hn hp
  unfold wpOp
  rw [hi]
  simp only
  unfold gC at G
  cases hg : d.g with
  | none =>
    rw [hg] at G
    rw [if_pos (g1 hg)]
    exact .inl (run G)
  | some sw =>
    obtain ⟨s, want⟩ := sw
    rw [hg] at G
    simp only at G
    split at G
    · rename_i b hb
      have hw := g2 s want b hg hb
      by_cases e : b = want
      · rw [if_pos (by rw [hw]; simpa using e)]
        exact .inl (run (G.1 e))
      · rw [if_neg (by rw [hw]; simpa using e)]
        exact hn .undef A E w undef (G.2 (by cases b <;> cases want <;> simp_all)) hR (Emb.Le.refl E) (Same.refl w) (TV_undef _ _)
    · rename_i hb
      rw [if_neg (by rw [g3 s want hg hb]; simp)]
      exact hn .undef A E w undef G hR (Emb.Le.refl E) (Same.refl w) (TV_undef _ _)
    · exact G.elim

theorem relAll_pw {T : List (List Nat)} : ∀ {L : List DRow}, relAll T L = true → L.Pairwise (fun p q => relT T p q = true)
  | [], _ => .nil
  | p :: r, h => by
    simp only [relAll, Bool.and_eq_true, List.all_eq_true] at h
    exact .cons h.1 (relAll_pw h.2)
theorem cPre_spec : ∀ {L : List DRow} {seen : List Nat}, cPre ops seen L = true → ∀ L1 p L2, L = L1 ++ p :: L2 → ∃ o, ops[p.i]? = some o ∧ ∀ e ∈ o.after, Region.binds .any e = true → e.on ∈ seen ∨ ∃ q ∈ L1, q.i = e.on
  | [], seen, h, L1, p, L2, e => by simp at e
  | q :: r, seen, h, L1, p, L2, e => by
    simp only [cPre, Bool.and_eq_true] at h
    obtain ⟨h1, h2⟩ := h
    cases L1 with
    | nil =>
      simp at e
      obtain ⟨rfl, rfl⟩ := e
      split at h1
      · rename_i o ho
        refine ⟨o, ho, fun e he hb => .inl ?_⟩
        simp only [List.all_eq_true] at h1
        have := h1 e (by simpa using he)
        simpa [hb] using this
      · cases h1
    | cons q' L1 =>
      simp at e
      obtain ⟨rfl, e⟩ := e
      obtain ⟨o, ho, hh⟩ := cPre_spec h2 L1 p L2 e
      refine ⟨o, ho, fun e he hb => ?_⟩
      rcases hh e he hb with h3 | ⟨x, hx, hxe⟩
      · rcases List.mem_cons.1 h3 with h3 | h3
        · exact .inr ⟨q, by simp, h3.symm⟩
        · exact .inl h3
      · exact .inr ⟨x, by simp [hx], hxe⟩

theorem getD_tf {listed : Array Bool} {i : Nat} (h : i < listed.size) : listed.getD i true = listed.getD i false := by simp [h]

theorem TV_mono0 {E E' : Emb} (hE : E.Le0 E') {v : AV} {c : Value} (h : TV E v c) : TV E' v c :=
  h.imp (fun ⟨a, xs, hx, hc⟩ => ⟨a, xs, VR_mono0 hE v _ hx, hc⟩) fun ⟨a, hx⟩ => ⟨a, VR_mono0 hE v _ hx⟩
theorem EnvR_mono0 {E E' : Emb} (hE : E.Le0 E') {env : AEnv} {a : Act} (h : EnvR E env a) : EnvR E' env a := fun n => TV_mono0 hE (h n)

theorem cLate_spec {T : List (List Nat)} : ∀ {L : List DRow} {seen : List DRow}, cLate T seen L = true → ∀ L1 q L2, L = L1 ++ q :: L2 → lateQ q = true → ∀ e, e ∈ seen ∨ e ∈ L1 → e.d.fl = false →
    (ancT T q.i).contains e.i = true ∨ ((q.d.o.op.sure || hasD e.d.ls q.d.o.dst) = true ∧ ∀ p ∈ L2, (ancT T p.i).contains q.i = true → (ancT T p.i).contains e.i = true)
  | [], seen, h, L1, q, L2, e, _, _, _, _ => by simp at e
  | x :: r, seen, h, L1, q, L2, e, hq, y, hy, hyf => by
    simp only [cLate, Bool.and_eq_true] at h
    obtain ⟨h1, h2⟩ := h
    cases L1 with
    | nil =>
      simp at e
      obtain ⟨rfl, rfl⟩ := e
      simp only [hq, Bool.not_true, Bool.false_or, List.all_eq_true] at h1
      have hy : y ∈ seen := hy.elim id (fun h => by simp at h)
      have := h1 y hy
      simp only [hyf, Bool.false_or, Bool.or_eq_true, Bool.and_eq_true, List.all_eq_true, Bool.not_eq_true'] at this
      rcases this with h | ⟨h, k⟩
      · exact .inl h
      · refine .inr ⟨by simpa using h, fun p hp hpa => ?_⟩
        rcases k p hp with k | k
        · rw [hpa] at k; cases k
        · exact k
    | cons x' L1 =>
      simp at e
      obtain ⟨rfl, e⟩ := e
      refine cLate_spec h2 L1 q L2 e hq y ?_ hyf
      rcases hy with hy | hy
      · exact .inl (by simp [hy])
      · rcases List.mem_cons.1 hy with rfl | hy
        · exact .inl (by simp)
        · exact .inr hy
theorem fsplit {f : DRow → Bool} : ∀ {L pre post : List DRow} {p : DRow}, L.filter f = pre ++ p :: post → ∃ L1 L2, L = L1 ++ p :: L2 ∧ (∀ e ∈ pre, e ∈ L1) ∧ (∀ e ∈ post, e ∈ L2) ∧ pre = L1.filter f
  | [], pre, post, p, h => by simp at h
  | x :: r, pre, post, p, h => by
    rw [List.filter_cons] at h
    split at h
    · rename_i hx
      cases pre with
      | nil =>
        simp at h
        obtain ⟨rfl, h⟩ := h
        exact ⟨[], r, rfl, by simp, fun e he => by rw [← h] at he; exact (List.mem_filter.1 he).1, rfl⟩
      | cons y pre =>
        simp at h
        obtain ⟨rfl, h⟩ := h
        obtain ⟨L1, L2, rfl, h1, h2, h3⟩ := fsplit h
        refine ⟨x :: L1, L2, rfl, fun e he => ?_, h2, by rw [List.filter_cons, if_pos hx, ← h3]⟩
        rcases List.mem_cons.1 he with rfl | he
        · simp
        · simp [h1 e he]
    · rename_i hx
      obtain ⟨L1, L2, rfl, h1, h2, h3⟩ := fsplit h
      exact ⟨x :: L1, L2, rfl, fun e he => by simp [h1 e he], h2, by rw [List.filter_cons, if_neg hx, ← h3]⟩

/-- An empty row: it has a block of its own. -/
theorem emp_run {o : Oper} {ao : AOp} (ho : trOp P o.op = some ao) (hem : ao.empty = true) {E : Emb} {A : Heap} {w : World} (hR : Rep E A w) {env : AEnv} {a : Act} {x : (Nat → AV) × Cont} (hm : mkL ao env = some x) :
    ∃ (c : Value) (w' : World) (sz : Nat), (execOp a.eval o).run P w = .ok (.value c) w' ∧ Rep (E.push ⟨some (w.heap.size, 0), sz, 0⟩) (A.set E.N x.2) w' ∧ Same w w' ∧ TV (E.push ⟨some (w.heap.size, 0), sz, 0⟩) (x.1 E.N) c := by
  have main : ∀ (t e : TypeId) (len : Nat) (ps : Array (Nat × Operand)) (sz bytes : Nat) (z : AV), o.op = .buildSlice t len ps → P.underlying t = some (.slice e) → elOf P e = some (sz, bytes, z) → trList 0 ps.toList = some [] → ps.size = len →
      (execOp a.eval o).run P w = .ok (.value (.slice (some (pA w.heap.size 0)) 0 0)) (w.alloc (.cells #[] e)) ∧ Rep (E.push ⟨some (w.heap.size, 0), sz, 0⟩) (A.set E.N (.row e sz [])) (w.alloc (.cells #[] e)) ∧ TV (E.push ⟨some (w.heap.size, 0), sz, 0⟩) (.own E.N 0 0) (.slice (some (pA w.heap.size 0)) 0 0) := by
    intro t e len ps sz bytes z hop ht hel hx hlen
    obtain ⟨i, zv, hi, rfl, rfl, hz, hzs, hp, hby, hv⟩ := elOf_ok hel
    have hl0 := trList_length hx
    have hps : ps = #[] := by
      rw [← Array.toArray_toList (xs := ps)]
      have : ps.toList = [] := List.eq_nil_of_length_eq_zero (by simpa using hl0.symm)
      rw [this]
    subst hps
    have hlen : len = 0 := by simpa using hlen.symm
    subst hlen
    have hsize : (Go.sizeOf e).run P w = .ok i.size w := by simp [Go.sizeOf, typeInfo, hi]
    refine ⟨?_, new_row hR (e := e) (l := []) (cs := []) rfl (w1 := w) rfl (C := #[]) (cap := 0) (by simp) (by simp) (fun j hj => by simp at hj)⟩
    simp only [execOp, hop, Instr.buildSlice, run_underlying ht, Sem.run_bind, Result.andThen_ok, hsize, Nat.zero_mul, if_true, Sem.run_pure]
    simp only [show ¬ (0 > 2 ^ 24) by omega, if_false, Sem.run_bind, Sem.run_pure, Result.andThen_ok]
    have hf : Instr.fill (fun j => some (j * i.size, i.size)) (Array.map (fun x => (#[] : Array Value)[x % (#[] : Array Value).size]!) (Array.range 0)) (Array.map (fun x : Nat × Operand => (x.fst, a.eval x.snd)) #[]).toList = some #[] := by
      simp [Instr.fill]
    rw [hf]
    rfl
  rcases trOp_cases ho with ho | ⟨_, _, _, _, _, rfl⟩
  · cases hop : o.op <;> rw [hop] at ho <;> simp only [trOp0] at ho
    case buildSlice t len ps =>
      split at ho
      · rename_i e hu
        split at ho
        · rename_i sz bytes z sh sz' xs h1 h2 h3
          split at ho
          · rename_i hh
            split at ho
            · rename_i k hk
              split at ho
              · rename_i hsz; subst hsz
                injection ho with ho; subst ho
                cases xs with
                | cons => cases hem
                | nil =>
                  obtain ⟨m1, m2, m3⟩ := main t e len ps 1 bytes z hop hu h1 h3 hh.1
                  simp only [mkL, fillAll, intsOf, Option.map_some] at hm
                  injection hm with hm; subst hm
                  exact ⟨_, _, 1, m1, Rep.irow (l := []) m2, Same.alloc _ _, m3⟩
              · cases ho
            · injection ho with ho; subst ho
              cases xs with
              | cons => cases hem
              | nil =>
                obtain ⟨m1, m2, m3⟩ := main t e len ps sz bytes z hop hu h1 h3 hh.1
                simp only [mkL, fillAll, Option.map_some] at hm
                injection hm with hm; subst hm
                exact ⟨_, _, sz, m1, m2, Same.alloc _ _, m3⟩
          · cases ho
        · cases ho
      · cases ho
    case slice t x lo hi mx =>
      cases mx <;> simp only [trOp0] at ho <;> (repeat' (first | (cases ho; done) | (injection ho with ho; subst ho; cases hem; done) | split at ho))
    case call c =>
      obtain ⟨callee, args, argTypes⟩ := c
      simp only at ho
      split at ho
      · split at ho
        · obtain ⟨_, _, e⟩ := opt_map ho; subst e; cases hem
        · cases ho
      · obtain ⟨_, _, e⟩ := opt_map ho; subst e; cases hem
      · rename_i b
        unfold trBuiltin at ho
        repeat' (first | (cases ho; done) | (injection ho with ho; subst ho; cases hem; done) | split at ho)
      · cases ho
    all_goals (repeat' (first | (cases ho; done) | (injection ho with ho; subst ho; cases hem; done) | (obtain ⟨_, _, e⟩ := opt_map ho; subst e; cases hem; done) | split at ho))
  · cases hem
/-- What makes memory alone: that its block has an address. -/
theorem lateC {i : Nat} {o : Oper} {d : AOper} (hi : ops[i]? = some o) (ht : trOper P n ops o = some d) {E : Emb} {A : Heap} {w : World} {env : AEnv} {a : Act} (hR : Rep E A w) (he : EnvR E env a) (ha : a.tmps.size = n)
    (hlo : d.op.late = true) (hg : d.g = none) {x : (Nat → AV) × Cont} (hm : mkL d.op env = some x) {KK : Act → World → Prop}
    (hn : ∀ g E' w' c b off, A g = none → Rep E' (A.set g x.2) w' → E.Le E' → Same w w' → TV E' (x.1 g) c → (E'.loc g).addr = some (b, off) → KK (a.put o.dst c) w') : wpOp P ops Q i KK a w := by
  cases hem : d.op.empty with
  | false =>
    refine stepC hi ht hR he ha (K := fun v A' => ∃ g, A g = none ∧ v = x.1 g ∧ A' = A.set g x.2) (Kp := fun _ _ => False) (by unfold gC; rw [hg]; exact (mkL_late hm).2 fun g hg => ⟨g, hg, rfl, rfl⟩) ?_ (fun _ _ _ _ _ h => h.elim)
    rintro v A' E' w' c ⟨g, hA, rfl, rfl⟩ hR' hE' hS' hT
    obtain ⟨b, off, hb⟩ := mkL_addr hlo hem hm (hR'.cont g _ (Heap.set_same A g x.2))
    exact hn g E' w' c b off hA hR' hE' hS' hT hb
  | true =>
    obtain ⟨hop, hdst, _, _, _⟩ := trOper_spec ht
    obtain ⟨g1, g2, g3⟩ := guard_ok ht he ha
    obtain ⟨c, w', sz, m1, m2, m3, m4⟩ := emp_run (a := a) hop hem hR hm
    unfold wpOp
    rw [hi]
    simp only
    rw [if_pos (g1 hg)]
    refine .inl ?_
    unfold Oper.wp
    rw [m1]
    exact hn E.N _ w' c w.heap.size 0 hR.fresh m2 (E.push_le _) m3 m4 (by rw [Emb.push_loc])
/-- What has run ahead of its turn. -/
structure Pend where
  q : DRow
  g : Nat
  b : Nat
  x : (Nat → AV) × Cont
def pdIn (pd : List Pend) (i : Nat) : Bool := pd.any (fun x => x.q.i == i)
structure PendOK (E0 E : Emb) (env : AEnv) (w : World) (x : Pend) : Prop where
  late : lateQ x.q = true
  lt : x.g < E.N
  lo : E.lo ≤ x.g
  addr : ∃ off, (E.loc x.g).addr = some (x.b, off)
  H : ∃ o, E.H x.b = some o
  H0 : E0.H x.b = none
  rep : RepC E w x.g x.x.2
  dst : ∀ t, x.q.d.o.dst = some t → env t = x.x.1 x.g
  mks : mkL x.q.d.o.op env = some x.x
theorem PendOK.step {E0 E E' : Emb} {A A' : Heap} {env : AEnv} {w w' : World} {x : Pend} (h : PendOK E0 E env w x) (hR : Rep E A w) (hR' : Rep E' A' w') (hE : E.Le E') {d : Option Nat} {v : AV}
    (hd : ∀ t, d = some t → t ∉ x.q.d.o.uses ∧ x.q.d.o.dst ≠ some t) : PendOK E0 E' (put env d v) w' x := by
  obtain ⟨off, ha⟩ := h.addr
  obtain ⟨o, hH⟩ := h.H
  have hl := hE.loc x.g h.lt
  have h' := hE.H _ _ hH
  refine ⟨h.late, Nat.lt_of_lt_of_le h.lt hE.n, by rw [hE.lo]; exact h.lo, ⟨off, by rw [hl]; exact ha⟩, ⟨o, h'⟩, h.H0, ?_, fun t ht => ?_, ?_⟩
  · refine RepC_mono hE h.lt h.rep (fun b' off' e => ?_) (fun b' off' e => ?_)
    · rw [ha] at e; injection e with e; injection e with e1 e2; subst e1
      exact (hR'.hid _ _ h').2.1
    · rw [ha] at e; injection e with e; injection e with e1 e2; subst e1
      rw [(hR'.hid _ _ h').1, (hR.hid _ _ hH).1]
  · rw [put_ne fun e => (hd t e).2 ht]; exact h.dst t ht
  · rw [← h.mks]
    refine mkL_congr fun s hs => put_ne fun e => (hd s e).1 ?_
    simp [AOper.uses, hs]

def unl (listed : Array Bool) (pd : List Pend) (p : DRow) : Bool := !listed.getD p.i true || pdIn pd p.i
structure DInv (P : Program) (n : Nat) (D : List Deferred) (ops : Array Oper) (T : List (List Nat)) (L : List DRow) (K : AEnv → Heap → Prop) (Kp : AV → Heap → Prop) (E0 : Emb) (w0 : World) (listed : Array Bool) (us : List DRow) (pd : List Pend) (env : AEnv) (A : Heap) (E : Emb) (a : Act) (w : World) : Prop where
  hus : us = L.filter (unl listed pd)
  size : listed.size = ops.size
  cl : ∀ i < ops.size, listed.getD i false = true → ∀ j ∈ ancT T i, listed.getD j false = true
  aw : awD P (us.map (·.d)) K Kp env A
  rep : Rep E A w
  env' : EnvR E env a
  le : E0.Le E
  same : Same w0 w
  tmps : a.tmps.size = n
  defers : a.defers = D
  pdl : ∀ x ∈ pd, x.q ∈ L ∧ x.q.i < ops.size ∧ listed.getD x.q.i false = true ∧ PendOK E0 E env w x
  pds : ∀ x ∈ pd, ∀ y ∈ pd, x.q.i ≠ y.q.i → x.b ≠ y.b
def NF (us : List DRow) (pd : List Pend) : Prop := ∀ x, us.find? (fun p => !p.d.fl) = some x → pdIn pd x.i = false

structure CF (ops : Array Oper) (T : List (List Nat)) (L : List DRow) : Prop where
  rel : L.Pairwise (fun p q => relT T p q = true)
  anc : ∀ i < ops.size, cAnc ops T i = true ∧ ∃ p ∈ L, p.i = i
  pre : cPre ops [] L = true
  late : cLate T [] L = true
  use : ∀ q ∈ L, lateQ q = true → ∀ t, q.d.o.dst = some t → (t ∉ q.d.o.op.uses ∧ ∀ e ∈ L, ksHas e.d.ks (some t) = false) ∧ ∀ e ∈ L, ∀ p ∈ L, p.d.o.op.late = true → hasD e.d.ls p.d.o.dst = true → t ∉ p.d.o.op.uses
  fl : ∀ p ∈ L, p.d.fl = p.d.o.op.floats
  keep : cKeep [] L = true
theorem cAll_CF {T : List (List Nat)} {L : List DRow} (hc : cAll ops T L = true) : CF ops T L := by
  simp only [cAll, Bool.and_eq_true, List.all_eq_true, List.mem_range, List.any_eq_true, beq_iff_eq] at hc
  obtain ⟨hrel, hanc, ⟨hpre, hlate, huse, hkeep⟩, hfl⟩ := hc
  refine ⟨relAll_pw hrel, hanc, hpre, hlate, fun q hq hl t ht => ?_, hfl, hkeep⟩
  simp only [cUse, List.all_eq_true, Bool.or_eq_true, Bool.and_eq_true, Bool.not_eq_true'] at huse
  rcases huse q hq with h | ⟨⟨h1, hks⟩, h2⟩
  · rw [hl] at h; cases h
  · rw [ht] at h1 hks
    refine ⟨⟨by simpa [hasD] using h1, fun e he => hks e he⟩, fun e he p hp hpl hpd => ?_⟩
    rcases h2 e he with h | h
    · have : e.d.ls = [] := by simpa using h
      rw [this] at hpd; cases hh : p.d.o.dst <;> rw [hh] at hpd <;> simp [hasD] at hpd
    · rcases h p hp with (h | h) | h
      · rw [hpl] at h; cases h
      · rw [hpd] at h; cases h
      · rw [ht] at h; simpa [hasD] using h
section
variable {T : List (List Nat)} {L : List DRow}
theorem CF.uniq (hC : CF ops T L) {p q : DRow} (hp : p ∈ L) (hq : q ∈ L) (h : p.i = q.i) : p = q := by
  have key : ∀ {l : List DRow}, l.Pairwise (fun p q => relT T p q = true) → ∀ p ∈ l, ∀ q ∈ l, p.i = q.i → p = q := by
    intro l hl
    induction hl with
    | nil => intro p hp; simp at hp
    | cons h1 _ ih =>
      intro p hp q hq e
      rcases List.mem_cons.1 hp with e1 | hp <;> rcases List.mem_cons.1 hq with e2 | hq
      · rw [e1, e2]
      · have := h1 q hq; rw [← e1] at this; simp [relT, e] at this
      · have := h1 p hp; rw [← e2] at this; simp [relT, e] at this
      · exact ih p hp q hq e
  exact key hC.rel p hp q hq h
theorem relT_indep {p q : DRow} (h : relT T p q = true) (hn : (ancT T q.i).contains p.i = false) :
    p.i ≠ q.i ∧ indep q.d.o p.d.o = true ∧ (lateQ q = true ∨ (p.d.fl = true ∧ (q.d.fl = true ∨ rdOK p q = true))) := by
  simp only [relT, hn, Bool.false_or, Bool.and_eq_true, bne_iff_ne, ne_eq, Bool.or_eq_true] at h
  exact ⟨h.1, h.2.1, h.2.2⟩
theorem rdOK_spec {p q : DRow} (h : rdOK p q = true) : p.d.o.op.reads = false ∨ q.d.st = true ∧ (q.d.ks = none ∨ ∃ l ns, q.d.ks = some l ∧ p.d.o.op.rds = some ns ∧ ∀ n ∈ ns, n ∈ l) := by
  simp only [rdOK, Bool.or_eq_true, Bool.not_eq_true', Bool.and_eq_true] at h
  rcases h with h | ⟨h1, h2⟩
  · exact .inl h
  · refine .inr ⟨h1, ?_⟩
    split at h2
    · rename_i hk; exact .inl hk
    · rename_i l hk
      split at h2
      · rename_i ns hn
        refine .inr ⟨l, ns, hk, hn, fun n hn => ?_⟩
        simp only [List.all_eq_true] at h2
        simpa using h2 n hn
      · cases h2
theorem hasD_not {l : List Nat} {d : Option Nat} (h : hasD l d = false) : ∀ t, d = some t → t ∉ l := fun t ht => by
  rw [ht] at h; simpa [hasD] using h
theorem kpAll_spec : ∀ {l : List DRow}, kpAll l = true → l.Pairwise (fun p e => p.d.o.op.reads = true → ∀ t, e.d.o.dst = some t → t ∉ p.d.o.uses) ∧ ∀ p ∈ l, p.d.o.op.reads = true → ∀ t, p.d.o.dst = some t → t ∉ p.d.o.uses
  | [], _ => ⟨.nil, by simp⟩
  | p :: r, h => by
    simp only [kpAll, Bool.and_eq_true, List.all_eq_true] at h
    obtain ⟨h1, h2, h3⟩ := h
    obtain ⟨k1, k2⟩ := kpAll_spec h3
    have one : ∀ e, kp1 p e = true → p.d.o.op.reads = true → ∀ t, e.d.o.dst = some t → t ∉ p.d.o.uses := fun e he hr => by
      simp only [kp1, hr, Bool.not_true, Bool.false_or, Bool.not_eq_true'] at he
      exact hasD_not he
    refine ⟨.cons (fun e he => one e (h2 e he)) k1, fun q hq => ?_⟩
    rcases List.mem_cons.1 hq with rfl | hq
    · exact one q h1
    · exact k2 q hq
theorem cKeep_spec : ∀ {L : List DRow} {seen : List DRow}, cKeep seen L = true → ∀ L1 q L2, L = L1 ++ q :: L2 → q.d.ks ≠ none → kpAll (seen ++ L1) = true
  | [], seen, h, L1, q, L2, e, _ => by simp at e
  | x :: r, seen, h, L1, q, L2, e, hq => by
    simp only [cKeep, Bool.and_eq_true, Bool.or_eq_true, Option.isNone_iff_eq_none] at h
    obtain ⟨h1, h2⟩ := h
    cases L1 with
    | nil =>
      simp at e
      obtain ⟨rfl, rfl⟩ := e
      rw [List.append_nil]
      exact h1.resolve_left hq
    | cons y L1 =>
      simp at e
      obtain ⟨rfl, e⟩ := e
      have := cKeep_spec h2 L1 q L2 e hq
      rwa [List.append_assoc] at this
theorem late_spec {p : DRow} (h : lateQ p = true) : p.d.o.op.late = true ∧ p.d.o.g = none ∧ ∃ t, p.d.o.dst = some t := by
  simp only [lateQ, lateO, Bool.and_eq_true, Option.isNone_iff_eq_none, Option.isSome_iff_exists] at h
  exact ⟨h.1.1, h.1.2, h.2⟩
theorem pdIn_ex {pd : List Pend} {i : Nat} (h : pdIn pd i = true) : ∃ x ∈ pd, x.q.i = i := by
  simpa [pdIn] using h

variable {K : AEnv → Heap → Prop} {Kp : AV → Heap → Prop} {E0 : Emb} {w0 : World} {listed : Array Bool} {us : List DRow} {pd : List Pend} {env : AEnv} {A : Heap} {E : Emb} {a : Act} {w : World}
theorem DInv.pre_listed (hI : DInv P n D ops T L K Kp E0 w0 listed us pd env A E a w) (hC : CF ops T L) {e : DRow} (he : e ∈ us) (hl : listed.getD e.i false = true) : ∃ x ∈ pd, x.q = e := by
  rw [hI.hus] at he
  obtain ⟨heL, hu⟩ := List.mem_filter.1 he
  have hlt : e.i < listed.size := by
    rcases Nat.lt_or_ge e.i listed.size with h | h
    · exact h
    · simp [Array.getElem?_eq_none h] at hl
  rw [← getD_tf hlt] at hl
  simp only [unl, hl, Bool.not_true, Bool.false_or] at hu
  obtain ⟨x, hx, hxi⟩ := pdIn_ex hu
  exact ⟨x, hx, hC.uniq (hI.pdl x hx).1 heL hxi⟩
theorem DInv.fl_of (hI : DInv P n D ops T L K Kp E0 w0 listed us pd env A E a w) (hC : CF ops T L) {x : Pend} (hx : x ∈ pd) : x.q.d.fl = false := by
  have h := hI.pdl x hx
  rw [hC.fl _ h.1]
  exact late_nofl (late_spec h.2.2.2.late).1

/-- Who is ready waits for nothing that stands before it. -/
theorem DInv.noAnc (hI : DInv P n D ops T L K Kp E0 w0 listed us pd env A E a w) (hN : NF us pd) (hC : CF ops T L) {pre post : List DRow} {p : DRow} (hs : us = pre ++ p :: post)
    (hanc : ∀ j ∈ ancT T p.i, listed.getD j false = true) : ∀ e ∈ pre, (ancT T p.i).contains e.i = false := by
  intro e he
  cases hce : (ancT T p.i).contains e.i with
  | false => rfl
  | true =>
    exfalso
    have heu : e ∈ us := by rw [hs]; simp [he]
    have hel := hanc e.i (by simpa using hce)
    obtain ⟨x, hx, rfl⟩ := hI.pre_listed hC heu hel
    have hxf := hI.fl_of hC hx
    obtain ⟨_, hxlt, hxl, hxo⟩ := hI.pdl x hx
    have hxp : pdIn pd x.q.i = true := by simp only [pdIn, List.any_eq_true]; exact ⟨x, hx, by simp⟩
    obtain ⟨pre1, pre2, hp12⟩ := List.append_of_mem he
    have hs2 : us = pre1 ++ x.q :: (pre2 ++ p :: post) := by rw [hs, hp12]; simp
    cases hf : pre1.find? (fun p => !p.d.fl) with
    | none =>
      have := hN x.q (by rw [hs2, List.find?_append, hf]; simp [hxf])
      rw [hxp] at this; cases this
    | some e0 =>
      have h0 := hN e0 (by rw [hs2, List.find?_append, hf]; simp)
      have he0 := List.mem_of_find?_eq_some hf
      have he0f : e0.d.fl = false := by simpa using List.find?_some hf
      have he0u : e0 ∈ us := by rw [hs2]; simp [he0]
      have hnl : listed.getD e0.i false ≠ true := fun h => by
        obtain ⟨y, hy, rfl⟩ := hI.pre_listed hC he0u h
        have : pdIn pd y.q.i = true := by simp only [pdIn, List.any_eq_true]; exact ⟨y, hy, by simp⟩
        rw [this] at h0; cases h0
      obtain ⟨L1, L2, hL, k1, k2, _⟩ := fsplit (by rw [← hI.hus]; exact hs2)
      rcases cLate_spec hC.late L1 x.q L2 hL hxo.late e0 (.inr (k1 e0 he0)) he0f with h | ⟨_, h⟩
      · exact hnl (hI.cl x.q.i hxlt hxl e0.i (by simpa using h))
      · have := h p (k2 p (by simp)) hce
        exact hnl (hanc e0.i (by simpa using this))
/-- Those that have run ahead have nothing to do with who runs now. -/
theorem DInv.disj (hI : DInv P n D ops T L K Kp E0 w0 listed us pd env A E a w) (hN : NF us pd) (hC : CF ops T L) {pre post : List DRow} {p : DRow} (hs : us = pre ++ p :: post) (hpl : listed.getD p.i false = false)
    (hanc : ∀ j ∈ ancT T p.i, listed.getD j false = true) : ∀ x ∈ pd, ∀ t, p.d.o.dst = some t → t ∉ x.q.d.o.uses ∧ x.q.d.o.dst ≠ some t := by
  intro x hx t ht
  obtain ⟨hxL, hxlt, hxl, hxo⟩ := hI.pdl x hx
  have hxu : x.q ∈ us := by
    rw [hI.hus]
    refine List.mem_filter.2 ⟨hxL, ?_⟩
    have : pdIn pd x.q.i = true := by simp only [pdIn, List.any_eq_true]; exact ⟨x, hx, by simp⟩
    simp [unl, this]
  have hpw : us.Pairwise (fun p q => relT T p q = true) := by rw [hI.hus]; exact hC.rel.filter _
  rw [hs, List.pairwise_append] at hpw
  obtain ⟨_, hpost, hcross⟩ := hpw
  rw [hs] at hxu
  rcases List.mem_append.1 hxu with h | h
  · obtain ⟨_, hi, _⟩ := relT_indep (hcross x.q h p (by simp)) (hI.noAnc hN hC hs hanc x.q h)
    obtain ⟨i1, i2, i3⟩ := indep_spec hi
    exact ⟨i1 t ht, i2 t ht⟩
  · rcases List.mem_cons.1 h with e | h
    · rw [e] at hxl; rw [hxl] at hpl; cases hpl
    · have hr := List.rel_of_pairwise_cons hpost h
      have hn : (ancT T x.q.i).contains p.i = false := by
        cases hh : (ancT T x.q.i).contains p.i with
        | false => rfl
        | true => rw [hI.cl x.q.i hxlt hxl p.i (by simpa using hh)] at hpl; cases hpl
      obtain ⟨_, hi, _⟩ := relT_indep hr hn
      obtain ⟨i1, i2, i3⟩ := indep_spec hi
      exact ⟨i3 t ht, fun e => i2 t e ht⟩
/-- The first one in line has run: its turn is now. -/
theorem DInv.turn (hC : CF ops T L) : ∀ (k : Nat) (us : List DRow) (pd : List Pend) (A : Heap) (E : Emb), pd.length ≤ k → DInv P n D ops T L K Kp E0 w0 listed us pd env A E a w →
    ∃ us' pd' A' E', DInv P n D ops T L K Kp E0 w0 listed us' pd' env A' E' a w ∧ NF us' pd'
  | 0, us, pd, A, E, hk, hI => by
    have : pd = [] := List.eq_nil_of_length_eq_zero (by omega)
    subst this
    exact ⟨us, [], A, E, hI, fun x hx => rfl⟩
  | k + 1, us, pd, A, E, hk, hI => by
    cases hf : us.find? (fun p => !p.d.fl) with
    | none => exact ⟨us, pd, A, E, hI, fun x hx => by rw [hf] at hx; cases hx⟩
    | some e =>
      cases hp : pdIn pd e.i with
      | false => exact ⟨us, pd, A, E, hI, fun x hx => by rw [hf] at hx; injection hx with hx; subst hx; exact hp⟩
      | true =>
        obtain ⟨x, hx, hxi⟩ := pdIn_ex hp
        obtain ⟨_, fl, post, hs, hfl⟩ := List.find?_eq_some_iff_append.1 hf
        have heL : e ∈ L := by
          have : e ∈ us := by rw [hs]; simp
          rw [hI.hus] at this; exact (List.mem_filter.1 this).1
        obtain ⟨hxL, hxlt, hxl, hxo⟩ := hI.pdl x hx
        have hxe := hC.uniq hxL heL hxi
        subst hxe
        obtain ⟨hlo, hg, t, ht⟩ := late_spec hxo.late
        obtain ⟨off, ha⟩ := hxo.addr
        obtain ⟨hA, hR'⟩ := hI.rep.thaw ha hxo.H hxo.lt hxo.lo hxo.rep
        have hpre : ∀ e ∈ fl, e.d.fl = true ∧ e.d.o.op.floats = true ∧ indep x.q.d.o e.d.o = true := by
          intro e he
          have hef : e.d.fl = true := by simpa using hfl e he
          have heu : e ∈ us := by rw [hs]; simp [he]
          have heL : e ∈ L := by rw [hI.hus] at heu; exact (List.mem_filter.1 heu).1
          have hnl : (ancT T x.q.i).contains e.i = false := by
            cases hh : (ancT T x.q.i).contains e.i with
            | false => rfl
            | true =>
              exfalso
              obtain ⟨y, hy, rfl⟩ := hI.pre_listed hC heu (hI.cl x.q.i hxlt hxl e.i (by simpa using hh))
              rw [hI.fl_of hC hy] at hef; cases hef
          have hpw : us.Pairwise (fun p q => relT T p q = true) := by rw [hI.hus]; exact hC.rel.filter _
          rw [hs, List.pairwise_append] at hpw
          obtain ⟨_, hi, _⟩ := relT_indep (hpw.2.2 e he x.q (by simp)) hnl
          exact ⟨hef, by rw [← hC.fl e heL]; exact hef, hi⟩
        have haw := hI.aw
        rw [hs] at haw
        simp only [List.map_append, List.map_cons] at haw
        have h2 := pull_late (q := x.q.d) (hI.fl_of hC hx) hg hA (fl.map (·.d)) env (fun e he => by
          obtain ⟨q, hq, rfl⟩ := List.mem_map.1 he
          exact hpre q hq) hxo.mks haw
        rw [ht] at h2
        simp only [put] at h2
        rw [upd_self (hxo.dst t ht), ← List.map_append] at h2
        have hpd : ∀ j, pdIn (pd.filter (fun y => y.q.i != x.q.i)) j = (pdIn pd j && j != x.q.i) := by
          intro j
          simp only [pdIn, List.any_filter]
          rw [Bool.eq_iff_iff]
          simp only [List.any_eq_true, Bool.and_eq_true, bne_iff_ne, ne_eq, beq_iff_eq]
          constructor
          · rintro ⟨y, hy, h1, rfl⟩; exact ⟨⟨y, hy, rfl⟩, h1⟩
          · rintro ⟨⟨y, hy, rfl⟩, h1⟩; exact ⟨y, hy, h1, rfl⟩
        refine DInv.turn hC k (fl ++ post) (pd.filter (fun y => y.q.i != x.q.i)) (A.set x.g x.x.2) (E.thaw x.b) ?_ ⟨?_, hI.size, hI.cl, h2, hR', EnvR_mono0 (E.thaw_le0 _) hI.env', ?_, hI.same, hI.tmps, hI.defers, ?_, ?_⟩
        · have : (pd.filter (fun y => y.q.i != x.q.i)).length < pd.length := by
            rw [List.length_filter_lt_length_iff_exists]
            exact ⟨x, hx, by simp⟩
          omega
        · have hlt : x.q.i < listed.size := by rw [hI.size]; exact hxlt
          have e1 : ∀ q : DRow, unl listed (pd.filter (fun y => y.q.i != x.q.i)) q = (unl listed pd q && q.i != x.q.i) := by
            intro q
            simp only [unl, hpd]
            by_cases hq : q.i = x.q.i
            · rw [hq, getD_tf hlt, hxl]; simp
            · have : (q.i != x.q.i) = true := by simpa using hq
              rw [this, Bool.and_true, Bool.and_true]
          have : L.filter (unl listed (pd.filter (fun y => y.q.i != x.q.i))) = (L.filter (unl listed pd)).filter (fun q => q.i != x.q.i) := by
            rw [List.filter_filter]
            congr 1
            funext q
            rw [e1 q, Bool.and_comm]
          have hpw : us.Pairwise (fun p q => relT T p q = true) := by rw [hI.hus]; exact hC.rel.filter _
          rw [hs, List.pairwise_append] at hpw
          rw [this, ← hI.hus, hs, List.filter_append, List.filter_cons]
          have f1 : fl.filter (fun q => q.i != x.q.i) = fl := List.filter_eq_self.2 fun e he => by
            have := hpw.2.2 e he x.q (by simp)
            simp only [relT, Bool.and_eq_true] at this
            exact this.1
          have f2 : post.filter (fun q => q.i != x.q.i) = post := List.filter_eq_self.2 fun e he => by
            have := List.rel_of_pairwise_cons hpw.2.1 he
            simp only [relT, Bool.and_eq_true, bne_iff_ne, ne_eq] at this
            simpa using fun e => this.1 e.symm
          rw [f1, f2]
          simp
        · refine ⟨hI.le.n, hI.le.loc, hI.le.F, hI.le.lo, fun b o hb => ?_⟩
          have hne : b ≠ x.b := fun e => by subst e; rw [hxo.H0] at hb; cases hb
          simp only [Emb.thaw, if_neg hne]
          exact hI.le.H b o hb
        · intro y hy
          obtain ⟨hy, hne⟩ := List.mem_filter.1 hy
          have hne : y.q.i ≠ x.q.i := by simpa using hne
          obtain ⟨yL, ylt, yl, yo⟩ := hI.pdl y hy
          have hb := hI.pds y hy x hx hne
          refine ⟨yL, ylt, yl, ⟨yo.late, yo.lt, yo.lo, yo.addr, ?_, yo.H0, ?_, yo.dst, yo.mks⟩⟩
          · obtain ⟨o, ho⟩ := yo.H
            exact ⟨o, by simp only [Emb.thaw, if_neg hb]; exact ho⟩
          · obtain ⟨o, ho⟩ := yo.H
            obtain ⟨off', ha'⟩ := yo.addr
            refine RepC_mono0 (E.thaw_le0 _) yo.lt yo.rep (fun b' off2 e => ?_) fun _ _ _ => rfl
            rw [ha'] at e; injection e with e; injection e with e1 e2; subst e1
            exact (hI.rep.hid _ _ ho).2.1
        · intro y hy z hz
          exact hI.pds y (List.mem_filter.1 hy).1 z (List.mem_filter.1 hz).1

theorem dwp (hC : CF ops T L) (hL : ∀ p ∈ L, ∃ o, ops[p.i]? = some o ∧ trOper P n ops o = some p.d.o)
    (hK : ∀ env A E a w, K env A → Rep E A w → EnvR E env a → E0.Le E → Same w0 w → a.tmps.size = n → a.defers = D → Q .normal a w)
    (hKp : ∀ v env A E a w c, Kp v A → Rep E A w → EnvR E env a → E0.Le E → Same w0 w → a.tmps.size = n → a.defers = D → TV E v c → Q (.panic [{ v := c, recovered := false }]) a w) :
    ∀ (fuel : Nat) (listed : Array Bool) (us : List DRow) (pd : List Pend) (env : AEnv) (A : Heap) (E : Emb) (a : Act) (w : World),
      (L.filter (fun p => !listed.getD p.i true)).length ≤ fuel → NF us pd → DInv P n D ops T L K Kp E0 w0 listed us pd env A E a w → wpAny P .any ops Q fuel listed a w := by
  have done : ∀ (listed : Array Bool) (us : List DRow) (pd : List Pend) (env : AEnv) (A : Heap) (E : Emb) (a : Act) (w : World), L.filter (fun p => !listed.getD p.i true) = [] → NF us pd →
      DInv P n D ops T L K Kp E0 w0 listed us pd env A E a w → Region.ready .any ops listed = [] ∧ Q .normal a w := by
    intro listed us pd env A E a w hul hN hI
    have hus : us = [] := by
      cases hu : us with
      | nil => rfl
      | cons e r =>
        exfalso
        have heu : e ∈ us := by rw [hu]; simp
        have heL : e ∈ L := by rw [hI.hus] at heu; exact (List.mem_filter.1 heu).1
        have hun : unl listed pd e = true := by rw [hI.hus] at heu; exact (List.mem_filter.1 heu).2
        have hl : listed.getD e.i true = true := by
          cases hh : listed.getD e.i true with
          | true => rfl
          | false =>
            have : e ∈ L.filter (fun p => !listed.getD p.i true) := List.mem_filter.2 ⟨heL, by rw [hh]; rfl⟩
            rw [hul] at this; simp at this
        simp only [unl, hl, Bool.not_true, Bool.false_or] at hun
        obtain ⟨x, hx, hxi⟩ := pdIn_ex hun
        have hxe := hC.uniq (hI.pdl x hx).1 heL hxi
        have hf := hI.fl_of hC hx
        rw [hxe] at hf
        have := hN e (by rw [hu]; simp [hf])
        rw [this] at hun; cases hun
    have haw := hI.aw
    rw [hus] at haw
    refine ⟨?_, hK env A E a w haw hI.rep hI.env' hI.le hI.same hI.tmps hI.defers⟩
    cases hr : Region.ready .any ops listed with
    | nil => rfl
    | cons i r =>
      exfalso
      have hm : i ∈ Region.ready .any ops listed := by rw [hr]; simp
      obtain ⟨hi, o, ho, _⟩ := mem_ready.1 hm
      have hlt := (Array.getElem?_eq_some_iff.1 ho).1
      obtain ⟨p, hp, hpi⟩ := (hC.anc i hlt).2
      have : p ∈ L.filter (fun p => !listed.getD p.i true) := List.mem_filter.2 ⟨hp, by rw [hpi, hi]; rfl⟩
      rw [hul] at this
      simp at this
  intro fuel
  induction fuel with
  | zero =>
    intro listed us pd env A E a w hlen hN hI
    exact done listed us pd env A E a w (List.length_eq_zero_iff.1 (by omega)) hN hI
  | succ fuel ih =>
    intro listed us pd env A E a w hlen hN hI
    refine ⟨fun hr => ?_, fun i him => ?_⟩
    · cases hu : L.filter (fun p => !listed.getD p.i true) with
      | nil => exact (done listed us pd env A E a w hu hN hI).2
      | cons p us' =>
        exfalso
        obtain ⟨L1, L2, hLL, hL1, hpf, _⟩ := List.filter_eq_cons_iff.1 hu
        obtain ⟨o, ho, hh⟩ := cPre_spec hC.pre L1 p L2 hLL
        have : p.i ∈ Region.ready .any ops listed := by
          refine mem_ready.2 ⟨by simpa using hpf, o, ho, fun e hem hb => ?_⟩
          rcases hh e hem hb with h3 | ⟨q, hq, hqe⟩
          · simp at h3
          · have := hL1 q hq
            obtain ⟨oq, hoq, _⟩ := hL q (by rw [hLL]; simp [hq])
            have hlt := (Array.getElem?_eq_some_iff.1 hoq).1
            have hsz := hI.size
            rw [← hqe, ← getD_tf (by omega)]
            simpa using this
        rw [hr] at this
        simp at this
    · obtain ⟨hi, o, ho, haf⟩ := mem_ready.1 him
      have hsz := hI.size
      have hlt := (Array.getElem?_eq_some_iff.1 ho).1
      obtain ⟨p, hp, hpi⟩ := (hC.anc i hlt).2
      have hpl : listed.getD p.i false = false := by rw [hpi, ← getD_tf (by omega)]; exact hi
      have hpu : p ∈ us := by rw [hI.hus]; exact List.mem_filter.2 ⟨hp, by simp [unl, hpi, hi]⟩
      obtain ⟨pre, post, hsplit⟩ := List.append_of_mem hpu
      have hancL : ∀ j ∈ ancT T p.i, listed.getD j false = true := by
        rw [hpi]
        intro j hj
        have h1 := (hC.anc i hlt).1
        simp only [cAnc, ho, List.all_eq_true, List.any_eq_true, Bool.and_eq_true, Bool.or_eq_true, beq_iff_eq] at h1
        obtain ⟨e, hem, hb, he⟩ := h1 j hj
        have hel := haf e (by simpa using hem) hb
        have hes : e.on < ops.size := by
          rw [← hsz]
          rcases Nat.lt_or_ge e.on listed.size with h' | h'
          · exact h'
          · simp [Array.getElem?_eq_none h'] at hel
        rcases he with he | he
        · rw [← he]; exact hel
        · exact hI.cl e.on hes hel j (by simpa using he)
      have husub : us.Pairwise (fun p q => relT T p q = true) := by rw [hI.hus]; exact hC.rel.filter _
      rw [hsplit, List.pairwise_append] at husub
      obtain ⟨_, hpost, hcross⟩ := husub
      have hnoA := hI.noAnc hN hC hsplit hancL
      have hdisj := hI.disj hN hC hsplit hpl hancL
      have hinU : ∀ e ∈ us, e ∈ L := fun e he => by rw [hI.hus] at he; exact (List.mem_filter.1 he).1
      have hpreR : ∀ e ∈ pre, e.i ≠ i ∧ indep p.d.o e.d.o = true ∧ (lateQ p = true ∨ (e.d.fl = true ∧ e.d.o.op.floats = true ∧ (p.d.fl = true ∨ rdOK e p = true))) := by
        intro e hem
        obtain ⟨h1, h2, h3⟩ := relT_indep (hcross e hem p (by simp)) (hnoA e hem)
        refine ⟨by rw [← hpi]; exact h1, h2, h3.imp id fun ⟨a, b⟩ => ⟨a, ?_, b⟩⟩
        rw [← hC.fl e (hinU e (by rw [hsplit]; simp [hem]))]; exact a
      have hpostR : ∀ e ∈ post, e.i ≠ i := fun e hem hei => by
        have h1 := List.rel_of_pairwise_cons hpost hem
        simp [relT, hpi, hei] at h1
      obtain ⟨o', ho', htr⟩ := hL p hp
      rw [hpi, ho] at ho'
      injection ho' with ho'; subst ho'
      have hpn : pdIn pd i = false := by
        cases hh : pdIn pd i with
        | false => rfl
        | true =>
          obtain ⟨x, hx, hxi⟩ := pdIn_ex hh
          have h1 := (hI.pdl x hx).2.2.1
          rw [hxi, ← hpi, hpl] at h1; cases h1
      have hcl' : ∀ k < ops.size, (listed.setIfInBounds i true).getD k false = true → ∀ j ∈ ancT T k, (listed.setIfInBounds i true).getD j false = true := by
        intro k hk hkl j hj
        by_cases hki : k = i
        · subst hki; exact getD_set_true (hancL j (by rw [hpi]; exact hj))
        · rw [getD_set_ne false (Ne.symm hki)] at hkl
          exact getD_set_true (hI.cl k hk hkl j hj)
      have hset : ∀ q : DRow, (!(listed.setIfInBounds i true).getD q.i true) = ((!listed.getD q.i true) && q.i != i) := by
        intro q
        by_cases hqi : q.i = i
        · rw [hqi]
          have : i < listed.size := by omega
          simp [this]
        · rw [getD_set_ne true (Ne.symm hqi)]; simp [hqi]
      have hlen' : (L.filter (fun p => !(listed.setIfInBounds i true).getD p.i true)).length ≤ fuel := by
        have e1 : L.filter (fun p => !(listed.setIfInBounds i true).getD p.i true) = (L.filter (fun p => !listed.getD p.i true)).filter (fun q => q.i != i) := by
          rw [List.filter_filter]
          congr 1
          funext q
          rw [hset q, Bool.and_comm]
        have : ((L.filter (fun p => !listed.getD p.i true)).filter (fun q => q.i != i)).length < (L.filter (fun p => !listed.getD p.i true)).length := by
          rw [List.length_filter_lt_length_iff_exists]
          exact ⟨p, List.mem_filter.2 ⟨hp, by rw [hpi, hi]; rfl⟩, by simp [hpi]⟩
        rw [e1]; omega
      have hpdl : ∀ {E' : Emb} {A' : Heap} {w' : World} {v : AV}, Rep E' A' w' → E.Le E' → ∀ x ∈ pd, x.q ∈ L ∧ x.q.i < ops.size ∧ (listed.setIfInBounds i true).getD x.q.i false = true ∧ PendOK E0 E' (put env p.d.o.dst v) w' x := by
        intro E' A' w' v hR' hE' x hx
        obtain ⟨k1, k2, k3, k4⟩ := hI.pdl x hx
        exact ⟨k1, k2, getD_set_true k3, k4.step hI.rep hR' hE' (hdisj x hx)⟩
      have haw := hI.aw
      have hmap : us.map (·.d) = pre.map (·.d) ++ p.d :: post.map (·.d) := by rw [hsplit]; simp
      rw [hmap] at haw
      obtain ⟨_, hdst, hinb, _, _⟩ := trOper_spec htr
      cases hlq : lateQ p with
      | true =>
        obtain ⟨hlo, hg, t, ht⟩ := late_spec hlq
        have hpf : p.d.fl = false := by rw [hC.fl p hp]; exact late_nofl hlo
        have hmS : (mkL p.d.o.op env).isSome = true := by
          cases hsure : p.d.o.op.sure with
          | true => cases hop : p.d.o.op <;> rw [hop] at hsure <;> simp only [AOp.sure, Bool.false_eq_true] at hsure; rfl
          | false =>
            refine awD_late hpf hlo hg ht (pre.map (·.d)) env A (fun e he => ?_) haw
            obtain ⟨q, hq, rfl⟩ := List.mem_map.1 he
            cases hqf : q.d.fl with
            | true =>
              refine .inl ⟨rfl, ?_, (hpreR q hq).2.1⟩
              rw [← hC.fl q (hinU q (by rw [hsplit]; simp [hq]))]; exact hqf
            | false =>
              refine .inr ⟨rfl, ?_⟩
              obtain ⟨L1, L2, hLL, k1, k2, _⟩ := fsplit (by rw [← hI.hus]; exact hsplit)
              rcases cLate_spec hC.late L1 p L2 hLL hlq q (.inr (k1 q hq)) hqf with h | ⟨h, _⟩
              · rw [hnoA q hq] at h; cases h
              · rw [hsure, Bool.false_or] at h
                exact h
        obtain ⟨x, hm⟩ := Option.isSome_iff_exists.1 hmS
        refine lateC ho htr hI.rep hI.env' hI.tmps hlo hg hm ?_
        intro g E' w' c b off hA hR' hE' hS' hT ha
        have hset' := Heap.set_same A g x.2
        obtain ⟨oo, hn, hRh⟩ := hR'.hide hA ha
        have hEh := hE'.trans (Emb.hide_le E' oo hn)
        obtain ⟨p1, p2, p3⟩ := put_ok (hI.env'.mono hEh) hI.tmps hinb (TV_mono0 (Emb.hide_le0 E' b oo) hT)
        have hout : ∀ s ∈ p.d.o.op.uses, put env p.d.o.dst (x.1 g) s = env s := fun s hs => by
          rw [ht]; simp only [put, upd]; rw [if_neg]; rintro rfl
          exact (hC.use p hp hlq s ht).1.1 hs
        have hpd' : ∀ j, j ≠ i → pdIn (⟨p, g, b, x⟩ :: pd) j = pdIn pd j := fun j hj => by
          simp only [pdIn, List.any_cons, hpi]
          have : (i == j) = false := by simpa using Ne.symm hj
          rw [this, Bool.false_or]
        have hInew : DInv P n D ops T L K Kp E0 w0 (listed.setIfInBounds i true) us (⟨p, g, b, x⟩ :: pd) (put env p.d.o.dst (x.1 g)) A (E'.hide b oo) (a.put o.dst c) w' := by
          refine ⟨?_, by simpa using hsz, hcl', ?_, hRh, by rw [hdst]; exact p1, hI.le.trans hEh, hI.same.trans hS', p2, p3.trans hI.defers, ?_, ?_⟩
          · rw [hI.hus]
            refine List.filter_congr fun q hq => ?_
            simp only [unl]
            by_cases hqi : q.i = i
            · have h1 : pdIn (⟨p, g, b, x⟩ :: pd) q.i = true := by simp [pdIn, hpi, hqi]
              rw [h1, hqi, hi]; simp
            · rw [hpd' q.i hqi, hset q]
              have : (q.i != i) = true := by simpa using hqi
              rw [this, Bool.and_true]
          · rw [hmap, ht]
            refine awD_put hpf (late_nofl hlo) hg ht (hC.use p hp hlq t ht).1.1 ((hC.use p hp hlq t ht).1.2 p hp) (pre.map (·.d)) env A (fun e he => ?_) (fun e he e' he' hel hed => ?_) haw
            · obtain ⟨q, hq, rfl⟩ := List.mem_map.1 he
              obtain ⟨i1, i2, i3⟩ := indep_spec (hpreR q hq).2.1
              exact ⟨hC.fl q (hinU q (by rw [hsplit]; simp [hq])), i1 t ht, i2 t ht, (hC.use p hp hlq t ht).1.2 q (hinU q (by rw [hsplit]; simp [hq]))⟩
            · rw [← List.map_cons (f := fun (p : DRow) => p.d), ← List.map_append, ← hsplit] at he he'
              obtain ⟨q, hq, rfl⟩ := List.mem_map.1 he
              obtain ⟨q', hq', rfl⟩ := List.mem_map.1 he'
              exact (hC.use p hp hlq t ht).2 q (hinU q hq) q' (hinU q' hq') hel hed
          · intro y hy
            rcases List.mem_cons.1 hy with rfl | hy
            · refine ⟨hp, by rw [hpi]; exact hlt, by rw [hpi]; simp [hsz, hlt], ⟨hlq, hR'.lt g _ hset', hR'.low g _ hset', ⟨off, ha⟩, ⟨oo, by simp [Emb.hide]⟩, ?_, ?_, fun s hs => ?_, by rw [mkL_congr hout]; exact hm⟩⟩
              · cases hh : E0.H b with
                | none => rfl
                | some z => have := (hI.le.trans hE').H b z hh; rw [hn] at this; cases this
              · exact RepC_mono0 (Emb.hide_le0 E' b oo) (hR'.lt g _ hset') (hR'.cont g _ hset') (fun b off ha => (hR'.blk hset' ha).2) fun _ _ _ => rfl
              · have hs' : p.d.o.dst = some s := hs
                rw [hs']; simp [put, upd]
            · exact hpdl hRh hEh y hy
          · have new : ∀ y ∈ pd, y.b ≠ b := fun y hy e => by
              obtain ⟨o, ho⟩ := (hI.pdl y hy).2.2.2.H
              rw [e] at ho
              have := hE'.H b o ho
              rw [hn] at this; cases this
            intro y hy z hz hne
            rcases List.mem_cons.1 hy with rfl | hy <;> rcases List.mem_cons.1 hz with rfl | hz
            · exact absurd rfl hne
            · exact fun e => new z hz e.symm
            · exact new y hy
            · exact hI.pds y hy z hz hne
        obtain ⟨us', pd', A', E2, hI', hN'⟩ := DInv.turn hC _ us _ A _ (Nat.le_refl _) hInew
        exact ih _ us' pd' _ A' E2 _ w' hlen' hN' hI'
      | false =>
        have hpreR' : ∀ e ∈ pre, e.d.fl = true ∧ e.d.o.op.floats = true ∧ indep p.d.o e.d.o = true ∧ (p.d.fl = true ∨ rdOK e p = true) := fun e he => by
          obtain ⟨_, h2, h3 | ⟨h3, h4, h5⟩⟩ := hpreR e he
          · rw [hlq] at h3; cases h3
          · exact ⟨h3, h4, h2, h5⟩
        have hus' : pre ++ post = L.filter (unl (listed.setIfInBounds i true) pd) := by
          have e0 : ∀ q : DRow, unl (listed.setIfInBounds i true) pd q = (unl listed pd q && q.i != i) := by
            intro q
            simp only [unl, hset q]
            by_cases hqi : q.i = i
            · rw [hqi, hpn]; simp
            · have : (q.i != i) = true := by simpa using hqi
              rw [this, Bool.and_true, Bool.and_true]
          have : L.filter (unl (listed.setIfInBounds i true) pd) = (L.filter (unl listed pd)).filter (fun q => q.i != i) := by
            rw [List.filter_filter]
            congr 1
            funext q
            rw [e0 q, Bool.and_comm]
          rw [this, ← hI.hus, hsplit, List.filter_append, List.filter_cons]
          have e1 : pre.filter (fun q => q.i != i) = pre := List.filter_eq_self.2 fun e he => by simpa using (hpreR e he).1
          have e2 : post.filter (fun q => q.i != i) = post := List.filter_eq_self.2 fun e he => by simpa using hpostR e he
          rw [e1, e2]
          simp [hpi]
        cases hpf : p.d.fl with
        | true =>
          have hpo : p.d.o.op.floats = true := by rw [← hC.fl p hp]; exact hpf
          obtain ⟨v0, G, h2⟩ := pull_fl hpf hpo (pre.map (·.d)) env (fun e he => by
            obtain ⟨q, hq, rfl⟩ := List.mem_map.1 he
            obtain ⟨a1, a2, a3, _⟩ := hpreR' q hq
            exact ⟨a1, a2, a3⟩) haw
          refine stepF ho htr hpo hI.rep hI.env' hI.tmps (G _ rfl) (fun c hT => ?_)
          obtain ⟨p1, p2, p3⟩ := put_ok hI.env' hI.tmps hinb hT
          have p1 : EnvR E (put env p.d.o.dst v0) (a.put o.dst c) := by rw [hdst]; exact p1
          obtain ⟨us', pd', A', E2, hI', hN'⟩ := DInv.turn hC _ (pre ++ post) pd A E (Nat.le_refl _)
            (⟨hus', by simpa using hsz, hcl', by rw [List.map_append]; exact h2, hI.rep, p1, hI.le, hI.same, p2, p3.trans hI.defers, hpdl hI.rep (Emb.Le.refl E), hI.pds⟩ : DInv P n D ops T L K Kp E0 w0 (listed.setIfInBounds i true) (pre ++ post) pd (put env p.d.o.dst v0) A E (a.put o.dst c) w)
          exact ih _ us' pd' _ A' E2 _ w hlen' hN' hI'
        | false =>
          have hpo : p.d.o.op.floats = false := by rw [← hC.fl p hp]; exact hpf
          obtain ⟨envx, _, h2⟩ := pull_ch hpf hpo (pre.map (·.d)) env (fun e he => by
            obtain ⟨q, hq, rfl⟩ := List.mem_map.1 he
            obtain ⟨a1, a2, a3, a4⟩ := hpreR' q hq
            exact ⟨a1, a2, a3, rdOK_spec (by rw [hpf] at a4; simpa using a4)⟩) (fun hks => by
              obtain ⟨L1, L2, hLL, _, _, hflt⟩ := fsplit (by rw [← hI.hus]; exact hsplit)
              obtain ⟨k1, k2⟩ := kpAll_spec (cKeep_spec hC.keep L1 p L2 hLL hks)
              rw [List.nil_append] at k1 k2
              refine ⟨?_, fun e he => ?_⟩
              · rw [List.pairwise_map, hflt]; exact k1.filter _
              · obtain ⟨q, hq, rfl⟩ := List.mem_map.1 he
                rw [hflt] at hq
                exact k2 q (List.mem_filter.1 hq).1) haw
          refine stepC ho htr hI.rep hI.env' hI.tmps h2 (fun v A' E' w' c hk hR' hE' hS' hT => ?_) (fun v A' E' w' c hk hR' hE' hS' hT => hKp v env A' E' a w' c hk hR' (hI.env'.mono hE') (hI.le.trans hE') (hI.same.trans hS') hI.tmps hI.defers hT)
          obtain ⟨p1, p2, p3⟩ := put_ok (hI.env'.mono hE') hI.tmps hinb hT
          have p1 : EnvR E' (put env p.d.o.dst v) (a.put o.dst c) := by rw [hdst]; exact p1
          obtain ⟨us', pd', A2, E2, hI', hN'⟩ := DInv.turn hC _ (pre ++ post) pd A' E' (Nat.le_refl _)
            (⟨hus', by simpa using hsz, hcl', by rw [List.map_append]; exact hk.2, hR', p1, hI.le.trans hE', hI.same.trans hS', p2, p3.trans hI.defers, hpdl hR' hE', hI.pds⟩ : DInv P n D ops T L K Kp E0 w0 (listed.setIfInBounds i true) (pre ++ post) pd (put env p.d.o.dst v) A' E' (a.put o.dst c) w')
          exact ih _ us' pd' _ A2 E2 _ w' hlen' hN' hI'
end

theorem trD_ok (hm : P.follows .mixedOrders = true) {ds : List DOp} (ht : trD P n ops = some ds) {K : AEnv → Heap → Prop} {Kp : AV → Heap → Prop} {E0 : Emb} {w0 : World}
    (hK : ∀ env A E a w, K env A → Rep E A w → EnvR E env a → E0.Le E → Same w0 w → a.tmps.size = n → a.defers = D → Q .normal a w)
    (hKp : ∀ v env A E a w c, Kp v A → Rep E A w → EnvR E env a → E0.Le E → Same w0 w → a.tmps.size = n → a.defers = D → TV E v c → Q (.panic [{ v := c, recovered := false }]) a w)
    {env : AEnv} {A : Heap} {E : Emb} {a : Act} {w : World} (h : awD P ds K Kp env A) (hR : Rep E A { w with drawn := w.drawn + 1 }) (he : EnvR E env a) (hE : E0.Le E) (hS : Same w0 { w with drawn := w.drawn + 1 }) (ha : a.tmps.size = n) (hd : a.defers = D) {id : Nat} :
    (Code.region id ops true).wp P Q a w := by
  unfold trD at ht
  split at ht
  · rename_i aops hao
    split at ht
    · rename_i L hLr
      injection ht with ht; subst ht
      obtain ⟨is, hrows, hc, hlen⟩ := pickL_spec _ _ hLr
      have hL : ∀ p ∈ L, ∃ o, ops[p.i]? = some o ∧ trOper P n ops o = some p.d.o := fun p hp => by
        obtain ⟨o, h1, h2⟩ := trOpers_get _ _ hao p.i p.d.o (rowsOf_get _ _ _ hrows p hp)
        exact ⟨o, by simpa using h1, h2⟩
      refine wp_region_any hm ?_
      refine dwp (cAll_CF hc) hL hK hKp ops.size _ L [] env A E a _ ?_ (fun x _ => rfl) ⟨?_, by simp, ?_, h, hR, he, hE, hS, ha, hd, fun x hx => by simp at hx, fun x hx => by simp at hx⟩
      · exact Nat.le_trans (List.length_filter_le _ _) hlen
      · rw [eq_comm, List.filter_eq_self]
        intro p hp
        obtain ⟨o, ho, _⟩ := hL p hp
        have := (Array.getElem?_eq_some_iff.1 ho).1
        simp [unl, this]
      · intro i hi h1
        simp [hi] at h1
    · cases ht
  · cases ht
end
end AVL
