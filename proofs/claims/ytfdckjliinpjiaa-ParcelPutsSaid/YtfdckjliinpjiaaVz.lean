/- The walk of abstract code, step by step, in terms that simp can take. -/
import Derived.Test.YtfdckjliinpjiaaVy
namespace AVL
open Go
set_option linter.unusedVariables false

inductive Kt where
  | done
  | thn (c : ACode) (k : Kt)
  | blk (id : Nat) (k : Kt)
def Kt.post (P : Program) (R : APost) : Kt → APost
  | .done => R
  | .thn c k => AEx.then (aw P c (k.post P R)) (k.post P R)
  | .blk id k => AEx.inBlock id (k.post P R)
def X (P : Program) (R : APost) (c : ACode) (k : Kt) (env : AEnv) (A : Heap) : Prop := aw P c (k.post P R) env A
def XE (P : Program) (R : APost) (e : AEx) (k : Kt) (env : AEnv) (A : Heap) : Prop := k.post P R e env A
def XO (P : Program) (R : APost) (r : List AOper) (k : Kt) (env : AEnv) (A : Heap) : Prop := awOps P r (k.post P R .normal) (fun v => k.post P R (.pan v)) env A
def XD (P : Program) (R : APost) (r : List DOp) (k : Kt) (env : AEnv) (A : Heap) : Prop := awD P r (k.post P R .normal) (fun v A => ∀ env' : AEnv, k.post P R (.pan v) env' A) env A
def KQ (P : Program) (R : APost) (k : Kt) (v : AV) (A : Heap) : Prop := ∀ env' : AEnv, XE P R (.pan v) k env' A
def flipA (K : AV → Heap → Prop) (A : Heap) (v : AV) : Prop := K v A
def kF (_ : AV) (_ : Heap) : Prop := False
def KV (P : Program) (R : APost) (d : Option Nat) (r : List AOper) (k : Kt) (env : AEnv) (v : AV) (A : Heap) : Prop := XO P R r k (put env d v) A
def KP (P : Program) (R : APost) (k : Kt) (env : AEnv) (v : AV) (A : Heap) : Prop := XE P R (.pan v) k env A
def KF (P : Program) (R : APost) (d : Option Nat) (r : List DOp) (k : Kt) (env : AEnv) (A : Heap) (v : AV) : Prop := XD P R r k (put env d v) A
def KD (P : Program) (R : APost) (st : Bool) (ks : Option (List Nat)) (A0 : Heap) (d : Option Nat) (r : List DOp) (k : Kt) (env : AEnv) (v : AV) (A : Heap) : Prop := (st = true → keepC ks env A0 A) ∧ XD P R r k (put env d v) A
def condK (P : Program) (R : APost) (c : AV) (x y : ACode) (k : Kt) (env : AEnv) (A : Heap) : Prop := match c with
  | .bool b => (b = true → X P R x k env A) ∧ (b = false → X P R y k env A)
  | _ => False
def guardO (P : Program) (R : APost) (c : AV) (want : Bool) (s : Nat) (d : Option Nat) (o : AOp) (r : List AOper) (k : Kt) (env : AEnv) (A : Heap) : Prop := match c with
  | .bool b => (b = want → aop P o (upd env s (.bool want)) A (KV P R d r k (upd env s (.bool want))) (KP P R k (upd env s (.bool want)))) ∧ (b = !want → XO P R r k (put (upd env s (.bool !want)) d .undef) A)
  | .undef => XO P R r k (put env d .undef) A
  | _ => False
def guardF (P : Program) (R : APost) (c : AV) (want : Bool) (d : Option Nat) (o : AOp) (r : List DOp) (k : Kt) (env : AEnv) (A : Heap) : Prop := match c with
  | .bool b => (b = want → fl P o env A (KF P R d r k env A)) ∧ (b = !want → XD P R r k (put env d .undef) A)
  | .undef => XD P R r k (put env d .undef) A
  | _ => False
def guardC (P : Program) (R : APost) (c : AV) (want : Bool) (st : Bool) (ks : Option (List Nat)) (d : Option Nat) (o : AOp) (r : List DOp) (k : Kt) (env : AEnv) (A : Heap) : Prop := match c with
  | .bool b => (b = want → aop P o env A (KD P R st ks A d r k env) (KQ P R k)) ∧ (b = !want → (st = true → keepC ks env A A) ∧ XD P R r k (put env d .undef) A)
  | .undef => (st = true → keepC ks env A A) ∧ XD P R r k (put env d .undef) A
  | _ => False
def callK (P : Program) (f : FuncId) (vs : Option (List AV)) (A : Heap) (K Kp : AV → Heap → Prop) : Prop := match vs with
  | some vs => SimX P f vs A (outK K Kp)
  | none => False

section
variable {P : Program} {R : APost} {k : Kt} {env : AEnv} {A : Heap} {K Kp : AV → Heap → Prop}
/-! code -/
@[simp] theorem X_skip : X P R .skip k env A = XE P R .normal k env A := rfl
@[simp] theorem X_seq {a b : ACode} : X P R (.seq a b) k env A = X P R a (.thn b k) env A := rfl
@[simp] theorem X_region {r : List AOper} : X P R (.region r) k env A = XO P R r k env A := rfl
@[simp] theorem X_regionD {r : List DOp} : X P R (.regionD r) k env A = XD P R r k env A := rfl
@[simp] theorem X_cond {c : AO} {x y : ACode} : X P R (.cond c x y) k env A = condK P R (ev env c) x y k env A := rfl
@[simp] theorem X_block {id : Nat} {c : ACode} : X P R (.block id c) k env A = X P R c (.blk id k) env A := rfl
@[simp] theorem X_exit {id : Nat} : X P R (.exit id) k env A = XE P R (.exit id) k env A := rfl
@[simp] theorem X_ret : X P R .ret k env A = XE P R .ret k env A := rfl
@[simp] theorem condK_true {x y : ACode} : condK P R (.bool true) x y k env A = X P R x k env A := by simp [condK]
@[simp] theorem condK_false {x y : ACode} : condK P R (.bool false) x y k env A = X P R y k env A := by simp [condK]
@[simp] theorem condK_dec {p : Prop} [Decidable p] {x y : ACode} : condK P R (.bool (decide p)) x y k env A = ((p → X P R x k env A) ∧ (¬p → X P R y k env A)) := by simp [condK]
@[simp] theorem condK_not {b : Bool} {x y : ACode} : condK P R (.bool (!b)) x y k env A = condK P R (.bool b) y x k env A := by cases b <;> simp [condK]
@[simp] theorem XE_thn {c : ACode} : XE P R .normal (.thn c k) env A = X P R c k env A := rfl
@[simp] theorem XE_thn_exit {id : Nat} {c : ACode} : XE P R (.exit id) (.thn c k) env A = XE P R (.exit id) k env A := rfl
@[simp] theorem XE_thn_ret {c : ACode} : XE P R .ret (.thn c k) env A = XE P R .ret k env A := rfl
@[simp] theorem XE_thn_pan {v : AV} {c : ACode} : XE P R (.pan v) (.thn c k) env A = XE P R (.pan v) k env A := rfl
@[simp] theorem XE_blk {id : Nat} : XE P R .normal (.blk id k) env A = XE P R .normal k env A := rfl
@[simp] theorem XE_blk_exit {id id' : Nat} : XE P R (.exit id') (.blk id k) env A = if id' = id then XE P R .normal k env A else XE P R (.exit id') k env A := rfl
@[simp] theorem XE_blk_ret {id : Nat} : XE P R .ret (.blk id k) env A = XE P R .ret k env A := rfl
@[simp] theorem XE_blk_pan {id : Nat} {v : AV} : XE P R (.pan v) (.blk id k) env A = XE P R (.pan v) k env A := rfl
@[simp] theorem XE_done {e : AEx} : XE P R e .done env A = R e env A := rfl
/-! regions -/
@[simp] theorem XO_nil : XO P R [] k env A = XE P R .normal k env A := rfl
@[simp] theorem XO_cons {d : Option Nat} {o : AOp} {r : List AOper} : XO P R (⟨d, o, none⟩ :: r) k env A = aop P o env A (KV P R d r k env) (KP P R k env) := rfl
@[simp] theorem XO_guard {d : Option Nat} {o : AOp} {s : Nat} {want : Bool} {r : List AOper} : XO P R (⟨d, o, some (s, want)⟩ :: r) k env A = guardO P R (env s) want s d o r k env A := rfl
@[simp] theorem guardO_tt {d : Option Nat} {o : AOp} {s : Nat} {r : List AOper} : guardO P R (.bool true) true s d o r k env A = aop P o (upd env s (.bool true)) A (KV P R d r k (upd env s (.bool true))) (KP P R k (upd env s (.bool true))) := by simp [guardO]
@[simp] theorem guardO_ff {d : Option Nat} {o : AOp} {s : Nat} {r : List AOper} : guardO P R (.bool false) false s d o r k env A = aop P o (upd env s (.bool false)) A (KV P R d r k (upd env s (.bool false))) (KP P R k (upd env s (.bool false))) := by simp [guardO]
@[simp] theorem guardO_tf {d : Option Nat} {o : AOp} {s : Nat} {r : List AOper} : guardO P R (.bool true) false s d o r k env A = XO P R r k (put (upd env s (.bool true)) d .undef) A := by simp [guardO]
@[simp] theorem guardO_ft {d : Option Nat} {o : AOp} {s : Nat} {r : List AOper} : guardO P R (.bool false) true s d o r k env A = XO P R r k (put (upd env s (.bool false)) d .undef) A := by simp [guardO]
@[simp] theorem guardO_un {want : Bool} {d : Option Nat} {o : AOp} {s : Nat} {r : List AOper} : guardO P R .undef want s d o r k env A = XO P R r k (put env d .undef) A := rfl
@[simp] theorem guardF_un {want : Bool} {d : Option Nat} {o : AOp} {r : List DOp} : guardF P R .undef want d o r k env A = XD P R r k (put env d .undef) A := rfl
@[simp] theorem XD_nil : XD P R [] k env A = XE P R .normal k env A := rfl
@[simp] theorem XD_fl {d : Option Nat} {o : AOp} {st : Bool} {ks : Option (List Nat)} {ls : List Nat} {r : List DOp} : XD P R (⟨⟨d, o, none⟩, true, st, ks, ls⟩ :: r) k env A = fl P o env A (KF P R d r k env A) := rfl
theorem lsOK_nil : ∀ (l : List DOp) (env : AEnv), lsOK [] l env
  | [], _ => trivial
  | p :: r, env => ⟨fun h => by cases hd : p.o.dst <;> simp [hd, hasD] at h, lsOK_nil r env⟩
/-- What a maker that may run early needs. -/
def mayL (o : AOp) (env : AEnv) : Prop := (mkL o env).isSome = true
@[simp] theorem lsOK_nil' {ls : List Nat} : lsOK ls [] env = True := rfl
@[simp] theorem lsOK_none {ls : List Nat} {o : AOp} {g : Option (Nat × Bool)} {fl st : Bool} {ks : Option (List Nat)} {l' : List Nat} {r : List DOp} : lsOK ls (⟨⟨none, o, g⟩, fl, st, ks, l'⟩ :: r) env = lsOK ls r env := by simp [lsOK, hasD]
@[simp] theorem lsOK_some {ls : List Nat} {t : Nat} {o : AOp} {g : Option (Nat × Bool)} {fl st : Bool} {ks : Option (List Nat)} {l' : List Nat} {r : List DOp} : lsOK ls (⟨⟨some t, o, g⟩, fl, st, ks, l'⟩ :: r) env = ((ls.contains t = true → o.late = true → mayL o env) ∧ lsOK ls r env) := by
  simp only [lsOK, mayL, hasD]
@[simp] theorem mayL_alloc {t : TypeId} {z : List AV} : mayL (.alloc t z) env = True := by simp [mayL, mkL]
@[simp] theorem mayL_box {t : TypeId} {sh : Sh} {x : AO} : mayL (.box t sh x) env = (good (ev env x) = true ∧ (shp sh (comps (ev env x))).isSome = true) := by
  simp only [mayL, mkL]; split <;> simp_all
@[simp] theorem mayL_bslI {e : TypeId} {ki : IntKind} {xs : List AO} : mayL (.bslI e ki xs) env = (((fillAll env .sc 1 xs).bind (intsOf ki)).isSome = true) := by
  cases h : fillAll env .sc 1 xs <;> simp [mayL, mkL, h]
@[simp] theorem mayL_bsl {e : TypeId} {sh : Sh} {sz : Nat} {xs : List AO} : mayL (.bsl e sh sz xs) env = ((fillAll env sh sz xs).isSome = true) := by
  simp [mayL, mkL]
@[simp] theorem mayL_mkM {k : IntKind} : mayL (.xx (.mkM k) []) env = True := by simp [mayL, mkL]
attribute [simp] AOp.late
@[simp] theorem XD_chL {d : Option Nat} {o : AOp} {st : Bool} {ks : Option (List Nat)} {t : Nat} {ls : List Nat} {r : List DOp} : XD P R (⟨⟨d, o, none⟩, false, st, ks, t :: ls⟩ :: r) k env A = (lsOK (t :: ls) r env ∧ aop P o env A (KD P R st ks A d r k env) (KQ P R k)) := rfl
@[simp] theorem XD_chGL {d : Option Nat} {o : AOp} {st : Bool} {ks : Option (List Nat)} {t : Nat} {ls : List Nat} {s : Nat} {want : Bool} {r : List DOp} : XD P R (⟨⟨d, o, some (s, want)⟩, false, st, ks, t :: ls⟩ :: r) k env A = (lsOK (t :: ls) r env ∧ guardC P R (env s) want st ks d o r k env A) := rfl
@[simp] theorem XD_ch {d : Option Nat} {o : AOp} {st : Bool} {ks : Option (List Nat)} {r : List DOp} : XD P R (⟨⟨d, o, none⟩, false, st, ks, []⟩ :: r) k env A = aop P o env A (KD P R st ks A d r k env) (KQ P R k) := propext ⟨fun h => h.2, fun h => ⟨lsOK_nil _ _, h⟩⟩
@[simp] theorem XD_flG {d : Option Nat} {o : AOp} {st : Bool} {ks : Option (List Nat)} {ls : List Nat} {s : Nat} {want : Bool} {r : List DOp} : XD P R (⟨⟨d, o, some (s, want)⟩, true, st, ks, ls⟩ :: r) k env A = guardF P R (env s) want d o r k env A := rfl
@[simp] theorem XD_chG {d : Option Nat} {o : AOp} {st : Bool} {ks : Option (List Nat)} {s : Nat} {want : Bool} {r : List DOp} : XD P R (⟨⟨d, o, some (s, want)⟩, false, st, ks, []⟩ :: r) k env A = guardC P R (env s) want st ks d o r k env A := propext ⟨fun h => h.2, fun h => ⟨lsOK_nil _ _, h⟩⟩
@[simp] theorem guardF_tt {d : Option Nat} {o : AOp} {r : List DOp} : guardF P R (.bool true) true d o r k env A = fl P o env A (KF P R d r k env A) := by simp [guardF]
@[simp] theorem guardF_ff {d : Option Nat} {o : AOp} {r : List DOp} : guardF P R (.bool false) false d o r k env A = fl P o env A (KF P R d r k env A) := by simp [guardF]
@[simp] theorem guardF_tf {d : Option Nat} {o : AOp} {r : List DOp} : guardF P R (.bool true) false d o r k env A = XD P R r k (put env d .undef) A := by simp [guardF]
@[simp] theorem guardF_ft {d : Option Nat} {o : AOp} {r : List DOp} : guardF P R (.bool false) true d o r k env A = XD P R r k (put env d .undef) A := by simp [guardF]
theorem Sub_refl (A : Heap) : A.Sub A := fun _ _ h => h
@[simp] theorem guardC_tt {d : Option Nat} {o : AOp} {st : Bool} {ks : Option (List Nat)} {r : List DOp} : guardC P R (.bool true) true st ks d o r k env A = aop P o env A (KD P R st ks A d r k env) (KQ P R k) := by simp [guardC]
@[simp] theorem guardC_ff {d : Option Nat} {o : AOp} {st : Bool} {ks : Option (List Nat)} {r : List DOp} : guardC P R (.bool false) false st ks d o r k env A = aop P o env A (KD P R st ks A d r k env) (KQ P R k) := by simp [guardC]
@[simp] theorem guardC_tf {d : Option Nat} {o : AOp} {st : Bool} {ks : Option (List Nat)} {r : List DOp} : guardC P R (.bool true) false st ks d o r k env A = XD P R r k (put env d .undef) A := by simp [guardC, keepC, Sub_refl]
@[simp] theorem guardC_ft {d : Option Nat} {o : AOp} {st : Bool} {ks : Option (List Nat)} {r : List DOp} : guardC P R (.bool false) true st ks d o r k env A = XD P R r k (put env d .undef) A := by simp [guardC, keepC, Sub_refl]
@[simp] theorem guardC_un {want : Bool} {d : Option Nat} {o : AOp} {st : Bool} {ks : Option (List Nat)} {r : List DOp} : guardC P R .undef want st ks d o r k env A = XD P R r k (put env d .undef) A := by simp [guardC, keepC, Sub_refl]
@[simp] theorem KV_eq {d : Option Nat} {r : List AOper} {v : AV} : KV P R d r k env v A = XO P R r k (put env d v) A := rfl
@[simp] theorem KP_eq {v : AV} : KP P R k env v A = XE P R (.pan v) k env A := rfl
@[simp] theorem KF_eq {d : Option Nat} {r : List DOp} {v : AV} : KF P R d r k env A v = XD P R r k (put env d v) A := rfl
@[simp] theorem KD_f {A0 : Heap} {ks : Option (List Nat)} {d : Option Nat} {r : List DOp} {v : AV} : KD P R false ks A0 d r k env v A = XD P R r k (put env d v) A := by simp [KD]
@[simp] theorem KD_t {A0 : Heap} {ks : Option (List Nat)} {d : Option Nat} {r : List DOp} {v : AV} : KD P R true ks A0 d r k env v A = (keepC ks env A0 A ∧ XD P R r k (put env d v) A) := by simp [KD]
@[simp] theorem keepC_none {A A' : Heap} : keepC none env A A' = A.Sub A' := by simp [keepC]
@[simp] theorem keepC_some {l : List Nat} {A A' : Heap} : keepC (some l) env A A' = (A.Sub A' ∨ keepL l env A A') := rfl
@[simp] theorem keepL_nil {A A' : Heap} : keepL [] env A A' = True := rfl
@[simp] theorem keepL_cons {t : Nat} {l : List Nat} {A A' : Heap} : keepL (t :: l) env A A' = (keep1 (env t) A A' ∧ keepL l env A A') := rfl
@[simp] theorem keep1_ptr {g o : Nat} {A A' : Heap} : keep1 (.ptr g o) A A' = (A' g = A g) := rfl
@[simp] theorem keep1_pix {g o m i : Nat} {A A' : Heap} : keep1 (.pix g o m i) A A' = (A' g = A g) := rfl
@[simp] theorem keep1_pel {g i o : Nat} {A A' : Heap} : keep1 (.pel g i o) A A' = (A' g = A g) := rfl
@[simp] theorem keep1_own {g i n : Nat} {A A' : Heap} : keep1 (.own g i n) A A' = (A' g = A g) := rfl
@[simp] theorem keep1_asl {g o m i n : Nat} {A A' : Heap} : keep1 (.asl g o m i n) A A' = (A' g = A g) := rfl
@[simp] theorem keep1_isl {ki : IntKind} {l : List Int} {A A' : Heap} : keep1 (.isl ki l) A A' = True := rfl
@[simp] theorem keep1_dsl {sz : Nat} {l : List AV} {A A' : Heap} : keep1 (.dsl sz l) A A' = True := rfl
@[simp] theorem keep1_nil {A A' : Heap} : keep1 .nilS A A' = True := rfl
@[simp] theorem keep1_pval {v : AV} {A A' : Heap} : keep1 (.pval v) A A' = True := rfl
@[simp] theorem flipA_eq {v : AV} : flipA K A v = K v A := rfl
@[simp] theorem KQ_eq {v : AV} : KQ P R k v A = ∀ env' : AEnv, XE P R (.pan v) k env' A := rfl
@[simp] theorem kF_eq {v : AV} : kF v A = False := rfl
@[simp] theorem outK_ret {v : AV} : outK K Kp (.ret v) A = K v A := rfl
@[simp] theorem outK_pan {v : AV} : outK K Kp (.pan v) A = Kp v A := rfl
@[simp] theorem callK_some {f : FuncId} {vs : List AV} : callK P f (some vs) A K Kp = SimX P f vs A (outK K Kp) := rfl
@[simp] theorem put_some {d : Nat} {v : AV} : put env (some d) v = upd env d v := rfl
@[simp] theorem put_none {v : AV} : put env none v = env := rfl
@[simp] theorem upd_eq {n : Nat} {v : AV} : upd env n v n = v := by simp [upd]
@[simp] theorem upd_app {n m : Nat} {v : AV} : upd env n v m = if m = n then v else env m := rfl
@[simp] theorem upd_twice {n : Nat} {v u : AV} : upd (upd env n v) n u = upd env n u := by funext x; simp only [upd]; split <;> rfl
@[simp] theorem ev_t {n : Nat} : ev env (.t n) = env n := rfl
@[simp] theorem ev_v {v : AV} : ev env (.v v) = v := rfl
@[simp] theorem evo_n : evo env none = none := rfl
@[simp] theorem evo_s {x : AO} : evo env (some x) = some (ev env x) := rfl
theorem set_app {g x : Nat} {c : Cont} : A.set g c x = if x = g then some c else A x := rfl
theorem del_app {g x : Nat} : A.del g x = if x = g then none else A x := rfl
@[simp] theorem set_eq' {g : Nat} {c : Cont} : A.set g c g = some c := Heap.set_same _ _ _
@[simp] theorem set_ne' {g x : Nat} {c : Cont} (h : x ≠ g) : A.set g c x = A x := Heap.set_ne _ _ h
@[simp] theorem set_none {g x : Nat} {c : Cont} : (A.set g c x = none) = (x ≠ g ∧ g ≠ x ∧ A x = none) := by
  simp only [set_app]
  by_cases h : x = g
  · simp [h]
  · simp [h, Ne.symm h]
@[simp] theorem del_set_eq {g : Nat} {c : Cont} : (A.set g c).del g = A.del g := by
  funext x; simp only [set_app, del_app]; split <;> simp_all
@[simp] theorem del_set_ne {g x : Nat} {c : Cont} (h : x ≠ g) : (A.set x c).del g = (A.del g).set x c := by
  funext y; simp only [set_app, del_app]; split <;> split <;> simp_all
@[simp] theorem set_set {g : Nat} {c c' : Cont} : (A.set g c).set g c' = A.set g c' := by
  funext x; simp only [set_app]; split <;> rfl
@[simp] theorem env0_app {l : List AV} {n : Nat} : env0 l n = l.getD n .undef := rfl
/-! operations -/
@[simp] theorem a_mv {x : AO} : aop P (.mv x) env A K Kp = K (ev env x) A := rfl
@[simp] theorem a_pick {c x y : AO} : aop P (.pick c x y) env A K Kp = apick (ev env c) (ev env x) (ev env y) (flipA K A) := rfl
@[simp] theorem a_alloc {t : TypeId} {z : List AV} : aop P (.alloc t z) env A K Kp = ∀ g, A g = none → K (.ptr g 0) (A.set g (.var t z)) := rfl
@[simp] theorem a_box {t : TypeId} {sh : Sh} {x : AO} : aop P (.box t sh x) env A K Kp = (good (ev env x) = true ∧ abox t sh (ev env x) A K) := rfl
@[simp] theorem a_build {sh : Sh} {z : List AV} {ps : List (Nat × Nat × AO)} : aop P (.build sh z ps) env A K Kp = abuild sh z ps env A K := rfl
@[simp] theorem a_bslI {e : TypeId} {ki : IntKind} {xs : List AO} : aop P (.bslI e ki xs) env A K Kp = abslI e ki xs env A K := rfl
@[simp] theorem a_bsl {e : TypeId} {sh : Sh} {sz : Nat} {xs : List AO} : aop P (.bsl e sh sz xs) env A K Kp = absl e sh sz xs env A K := rfl
@[simp] theorem a_load {sh : Sh} {sz : Nat} {p : AO} : aop P (.load sh sz p) env A K Kp = aload sh sz (ev env p) A K := rfl
@[simp] theorem a_store {sh : Sh} {sz : Nat} {p x : AO} : aop P (.store sh sz p x) env A K Kp = (good (ev env x) = true ∧ astore sh sz (ev env p) (ev env x) A K) := rfl
@[simp] theorem a_bin {op : BinOp} {x y : AO} : aop P (.bin op x y) env A K Kp = abin op (ev env x) (ev env y) (flipA K A) := rfl
@[simp] theorem a_eq {et : ET} {neg : Bool} {x y : AO} : aop P (.eq et neg x y) env A K Kp = aeq et neg (ev env x) (ev env y) (flipA K A) := rfl
@[simp] theorem a_un {op : UnOp} {x : AO} : aop P (.un op x) env A K Kp = aun op (ev env x) (flipA K A) := rfl
@[simp] theorem a_conv {ki : IntKind} {x : AO} : aop P (.conv ki x) env A K Kp = aconv ki (ev env x) (flipA K A) := rfl
@[simp] theorem a_fadr {off sz : Nat} {sh : Sh} {x : AO} : aop P (.fadr off sz sh x) env A K Kp = afadr off sz sh (ev env x) A K := rfl
@[simp] theorem a_field {off sz : Nat} {sh : Sh} {x : AO} : aop P (.field off sz sh x) env A K Kp = afield off sz sh (ev env x) A K := rfl
def idxK (P : Program) (sz : Nat) (x : AV) (i : AV) (A : Heap) (K Kp : AV → Heap → Prop) : Prop := aint i fun n => aidxP P sz x n A K Kp
def idxAK (m sz : Nat) (ints : Bool) (x : AV) (i : AV) (A : Heap) (K : AV → Heap → Prop) : Prop := aint i fun n => aidxA m sz ints x n A K
@[simp] theorem a_idx {sz : Nat} {x i : AO} : aop P (.idx sz x i) env A K Kp = idxK P sz (ev env x) (ev env i) A K Kp := rfl
@[simp] theorem idxK_int {sz : Nat} {x : AV} {ki : IntKind} {n : Int} : idxK P sz x (.int ki n) A K Kp = aidxP P sz x n A K Kp := rfl
@[simp] theorem aidxP_isl {sz : Nat} {k : IntKind} {l : List Int} {n : Int} : aidxP P sz (.isl k l) n A K Kp = aidx sz (.isl k l) n A K := rfl
@[simp] theorem aidxP_dsl {sz s : Nat} {l : List AV} {n : Int} : aidxP P sz (.dsl s l) n A K Kp = aidx sz (.dsl s l) n A K := rfl
@[simp] theorem aidxP_own {sz g i m : Nat} {n : Int} : aidxP P sz (.own g i m) n A K Kp = aidx sz (.own g i m) n A K := rfl
@[simp] theorem aidxP_asl {sz g o m i l : Nat} {n : Int} : aidxP P sz (.asl g o m i l) n A K Kp = aidx sz (.asl g o m i l) n A K := rfl
@[simp] theorem aidxP_nil {sz : Nat} {n : Int} : aidxP P sz .nilS n A K Kp = ∀ s : Bool, Kp (.iface P.rt.boundsError (.agg [.int .i64 (IntKind.i64.wrap n), .int .i64 0, .bool s, .int .u8 0])) A := rfl
@[simp] theorem a_idxA {m sz : Nat} {ints : Bool} {x i : AO} : aop P (.idxA m sz ints x i) env A K Kp = idxAK m sz ints (ev env x) (ev env i) A K := rfl
@[simp] theorem idxAK_int {m sz : Nat} {ints : Bool} {x : AV} {ki : IntKind} {n : Int} : idxAK m sz ints x (.int ki n) A K = aidxA m sz ints x n A K := rfl
@[simp] theorem a_slc {sz : Nat} {x : AO} {lo hi : Option AO} : aop P (.slc sz x lo hi) env A K Kp = (szOK sz (ev env x) A ∧ aslc (ev env x) (evo env lo) (evo env hi) A K) := rfl
@[simp] theorem a_slcA {m : Nat} {x : AO} {lo hi : Option AO} : aop P (.slcA m x lo hi) env A K Kp = aslcA m (ev env x) (evo env lo) (evo env hi) A K := rfl
@[simp] theorem a_s2a {m : Nat} {x : AO} : aop P (.s2a m x) env A K Kp = as2a m (ev env x) A K := rfl
@[simp] theorem a_mkI {e : TypeId} {ki : IntKind} {b : Nat} {l c : AO} : aop P (.mkI e ki b l c) env A K Kp = amkI e ki b (ev env l) (ev env c) A K := rfl
@[simp] theorem a_mk {e : TypeId} {sz b : Nat} {z : AV} {l c : AO} : aop P (.mk e sz b z l c) env A K Kp = amk e sz b z (ev env l) (ev env c) A K := rfl
@[simp] theorem a_ext {i : Nat} {x : AO} : aop P (.ext i x) env A K Kp = aext i (ev env x) (flipA K A) := rfl
@[simp] theorem a_len {s : Bool} {x : AO} : aop P (.len s x) env A K Kp = alen s (ev env x) (flipA K A) := rfl
@[simp] theorem a_appI {e : TypeId} {ki : IntKind} {b : Nat} {d s : AO} : aop P (.appI e ki b d s) env A K Kp = aappI e ki b (ev env d) (ev env s) A K := rfl
@[simp] theorem a_app {e : TypeId} {sz b : Nat} {d s : AO} : aop P (.app e sz b d s) env A K Kp = aapp e sz b (ev env d) (ev env s) A K := rfl
@[simp] theorem a_call {f : FuncId} {args : List (Sh × AO)} : aop P (.call f args) env A K Kp = callK P f (nrms env args) A K Kp := by
  simp only [aop, callK]
  cases nrms env args with
  | none => rfl
  | some vs => exact congrArg (SimX P f vs A) (by funext o A'; cases o <;> rfl)
def callVK (P : Program) (f : AV) (vs : Option (List AV)) (A : Heap) (K Kp : AV → Heap → Prop) : Prop := match f, vs with
  | .func (.func f) first cap, some vs => callable P f = true ∧ SimX P f (first ++ vs ++ cap) A (outK K Kp)
  | _, _ => False
@[simp] theorem callVK_func {f : FuncId} {first cap vs : List AV} : callVK P (.func (.func f) first cap) (some vs) A K Kp = (callable P f = true ∧ SimX P f (first ++ vs ++ cap) A (outK K Kp)) := rfl
@[simp] theorem a_callV {x : AO} {args : List (Sh × AO)} : aop P (.callV x args) env A K Kp = callVK P (ev env x) (nrms env args) A K Kp := rfl
def pncK (x : AV) (A : Heap) (Kp : AV → Heap → Prop) : Prop := match x with
  | .iface t v => Kp (.iface t v) A
  | _ => False
@[simp] theorem pncK_ifc {t : TypeId} {v : AV} : pncK (.iface t v) A Kp = Kp (.iface t v) A := rfl
@[simp] theorem a_pnc {x : AO} : aop P (.pnc x) env A K Kp = pncK (ev env x) A Kp := rfl
@[simp] theorem a_xx {o : XOp} {xs : List AO} : aop P (.xx o xs) env A K Kp = xop o (xs.map (ev env)) A K := rfl
def flK (F : AV → Prop) (v : AV) (_ : Heap) : Prop := F v
@[simp] theorem flK_eq {F : AV → Prop} {v : AV} : flK F v A = F v := rfl
@[simp] theorem fl_aop {o : AOp} {F : AV → Prop} : fl P o env A F = aop P o env A (flK F) kF := rfl
/-! values -/
@[simp] theorem apick_b {b : Bool} {x y : AV} {F : AV → Prop} : apick (.bool b) x y F = F (if b then x else y) := rfl
@[simp] theorem abin_ii {op : BinOp} {ki ki' : IntKind} {a b : Int} {F : AV → Prop} : abin op (.int ki a) (.int ki' b) F = abinI op ki a ki' b F := rfl
@[simp] theorem abin_ss {op : BinOp} {a b : ByteArray} {F : AV → Prop} : abin op (.str a) (.str b) F = abinS op a b F := rfl
attribute [simp] abinI abinS aun aconv alen aext aload astore abox afadr afield aidx aidxA aslc aslcA as2a bnd szOK amkI amk abuild foldP abslI absl fillAll intsOf intsQ aappI aapp aappZ srcI srcG xop nrms nrm pop nilOf aeq eqV eqF aress outOf AV.isAgg comps shp getC setC takeC dropC getI setI good AV.st AV.sts AV.sizes AV.size AV.isSl

/-! a guard that is not known: both ways (not for simp at large) -/
theorem guardO_dec {p : Prop} [Decidable p] {d : Option Nat} {o : AOp} {s : Nat} {r : List AOper} : guardO P R (.bool (decide p)) true s d o r k env A =
    ((p → aop P o (upd env s (.bool true)) A (KV P R d r k (upd env s (.bool true))) (KP P R k (upd env s (.bool true)))) ∧ (¬p → XO P R r k (put (upd env s (.bool false)) d .undef) A)) := by simp [guardO]
theorem guardO_decF {p : Prop} [Decidable p] {d : Option Nat} {o : AOp} {s : Nat} {r : List AOper} : guardO P R (.bool (decide p)) false s d o r k env A =
    ((¬p → aop P o (upd env s (.bool false)) A (KV P R d r k (upd env s (.bool false))) (KP P R k (upd env s (.bool false)))) ∧ (p → XO P R r k (put (upd env s (.bool true)) d .undef) A)) := by simp [guardO]
theorem guardF_dec {p : Prop} [Decidable p] {d : Option Nat} {o : AOp} {r : List DOp} : guardF P R (.bool (decide p)) true d o r k env A =
    ((p → fl P o env A (KF P R d r k env A)) ∧ (¬p → XD P R r k (put env d .undef) A)) := by simp [guardF]
theorem guardF_decF {p : Prop} [Decidable p] {d : Option Nat} {o : AOp} {r : List DOp} : guardF P R (.bool (decide p)) false d o r k env A =
    ((¬p → fl P o env A (KF P R d r k env A)) ∧ (p → XD P R r k (put env d .undef) A)) := by simp [guardF]
theorem guardC_dec {p : Prop} [Decidable p] {st : Bool} {ks : Option (List Nat)} {d : Option Nat} {o : AOp} {r : List DOp} : guardC P R (.bool (decide p)) true st ks d o r k env A =
    ((p → aop P o env A (KD P R st ks A d r k env) (KQ P R k)) ∧ (¬p → XD P R r k (put env d .undef) A)) := by simp [guardC, keepC, Sub_refl]
theorem guardC_decF {p : Prop} [Decidable p] {st : Bool} {ks : Option (List Nat)} {d : Option Nat} {o : AOp} {r : List DOp} : guardC P R (.bool (decide p)) false st ks d o r k env A =
    ((¬p → aop P o env A (KD P R st ks A d r k env) (KQ P R k)) ∧ (p → XD P R r k (put env d .undef) A)) := by simp [guardC, keepC, Sub_refl]
theorem SimD.mono {f : FuncId} {args : List AV} {K K' : AOut → Heap → Prop} (h : SimD P f args A K) (hk : ∀ o A', K o A' → K' o A') : SimD P f args A K' :=
  fun E w cargs u hR ha => (h E w cargs u hR ha).mono fun _ _ _ ⟨e, o, A', E', k, r⟩ => ⟨e, o, A', E', hk _ _ k, r⟩
theorem X_introD {f : FuncId} {fn : Func} {af : AFunc} {args : List AV} {Ko : AOut → Heap → Prop} (hf : P.funcs[f]? = some fn) (ht : trF P fn = some af) (hn : args.length ≤ fn.ntmps)
    (h : ∀ R : APost, (∀ e env A, fpost af.res Ko e env A → R e env A) → X P R af.body .done (env0 args) A) : SimD P f args A Ko := simD_of2 _ hf ht hn (fun _ _ _ h => h) (h _ (fun _ _ _ h => h))
@[simp] theorem inl_ret {res : List ARes} : inl res K Kp .ret env A = aress env A res fun vs => K (outOf vs) A := rfl
@[simp] theorem inl_normal {res : List ARes} : inl res K Kp .normal env A = aress env A res fun vs => K (outOf vs) A := rfl
@[simp] theorem inl_pan {res : List ARes} {v : AV} : inl res K Kp (.pan v) env A = Kp v A := rfl
theorem X_inl {f : FuncId} {fn : Func} {af : AFunc} {args : List AV} (hf : P.funcs[f]? = some fn) (ht : trF P fn = some af) (hn : args.length ≤ fn.ntmps)
    (h : X P (inl af.res K Kp) af.body .done (env0 args) A) : SimX P f args A (outK K Kp) := inl_of hf ht hn h
theorem X_intro {f : FuncId} {fn : Func} {af : AFunc} {args : List AV} {Ko : AOut → Heap → Prop} (hf : P.funcs[f]? = some fn) (ht : trF P fn = some af) (hn : args.length ≤ fn.ntmps)
    (h : ∀ R : APost, (∀ e env A, fpost af.res Ko e env A → R e env A) → X P R af.body .done (env0 args) A) : SimX P f args A Ko :=
  sim_of hf ht hn (h _ fun _ _ _ h => h)
/-- A loop: a state S, what holds at the start of each round (of a part of the heap), a measure. -/
theorem X_loopS {c : ACode} {S : Type} (I : S → AEnv → Heap → Prop) (μ : S → Nat) (s : S) (B0 : Heap) (hB : B0.Sub A) (h0 : I s env B0)
    (h : ∀ (R' : APost) (s : S) (env : AEnv) (B : Heap), I s env B → (∀ s' env' A' B', Heap.Sub B' A' → I s' env' B' → μ s' < μ s → R' .normal env' A') → (∀ e env' A', e ≠ .normal → XE P R e k env' A' → R' e env' A') → X P R' c .done env B) :
    X P R (.loop c) k env A := by
  refine ⟨S, I, μ, s, ⟨B0, hB, h0⟩, fun s env A hI => ?_⟩
  refine h _ s env A hI (fun s' env' A' B' hS h1 h2 => ⟨s', B', hS, h1, h2⟩) (fun e env' A' hne hx => ?_)
  cases e with
  | normal => exact absurd rfl hne
  | exit _ => exact hx
  | ret => exact hx
  | pan _ => exact hx
theorem X_loop {c : ACode} {S : Type} (I : S → AEnv → Heap → Prop) (μ : S → Nat) (s : S) (h0 : I s env A)
    (h : ∀ (R' : APost) (s : S) (env : AEnv) (A : Heap), I s env A → (∀ s' env' A', I s' env' A' → μ s' < μ s → R' .normal env' A') → (∀ e env' A', e ≠ .normal → XE P R e k env' A' → R' e env' A') → X P R' c .done env A) :
    X P R (.loop c) k env A :=
  X_loopS I μ s A (Sub_refl A) h0 fun R' s env B hI hN hE => h R' s env B hI (fun s' env' A' h1 h2 => hN s' env' A' A' (Sub_refl A') h1 h2) hE
/-- What a round of a loop is to end in. -/
def lp (P : Program) (R : APost) (k : Kt) {S : Type} (I : S → AEnv → Heap → Prop) (μ : S → Nat) (s : S) : APost := AEx.then (fun env' A' => ∃ s' B', Heap.Sub B' A' ∧ I s' env' B' ∧ μ s' < μ s) (k.post P R)
section
variable {S : Type} {I : S → AEnv → Heap → Prop} {μ : S → Nat} {s : S}
@[simp] theorem lp_exit {id : Nat} : lp P R k I μ s (.exit id) env A = XE P R (.exit id) k env A := rfl
@[simp] theorem lp_ret : lp P R k I μ s .ret env A = XE P R .ret k env A := rfl
@[simp] theorem lp_pan {v : AV} : lp P R k I μ s (.pan v) env A = XE P R (.pan v) k env A := rfl
theorem lp_next (s' : S) (h : I s' env A) (hm : μ s' < μ s) : lp P R k I μ s .normal env A := ⟨s', A, Sub_refl A, h, hm⟩
theorem lp_nextS (s' : S) (B : Heap) (hB : B.Sub A) (h : I s' env B) (hm : μ s' < μ s) : lp P R k I μ s .normal env A := ⟨s', B, hB, h, hm⟩
end
theorem X_lpS {c : ACode} {S : Type} (I : S → AEnv → Heap → Prop) (μ : S → Nat) (s : S) (B0 : Heap) (hB : B0.Sub A) (h0 : I s env B0)
    (h : ∀ (s : S) (env : AEnv) (B : Heap), I s env B → X P (lp P R k I μ s) c .done env B) : X P R (.loop c) k env A :=
  ⟨S, I, μ, s, ⟨B0, hB, h0⟩, fun s env A hI => h s env A hI⟩
theorem X_lp {c : ACode} {S : Type} (I : S → AEnv → Heap → Prop) (μ : S → Nat) (s : S) (h0 : I s env A)
    (h : ∀ (s : S) (env : AEnv) (B : Heap), I s env B → X P (lp P R k I μ s) c .done env B) : X P R (.loop c) k env A :=
  X_lpS I μ s A (Sub_refl A) h0 h
end
end AVL
