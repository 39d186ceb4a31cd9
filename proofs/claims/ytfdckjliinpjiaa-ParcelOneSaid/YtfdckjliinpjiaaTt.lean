/- Catch: what is deferred, what is recovered; what is thrown. -/
import Derived.Test.YtfdckjliinpjiaaGtrap
import Derived.Test.YtfdckjliinpjiaaVsn
namespace Go.Proofs.Ytfdckjliinpjiaa
open Go AVL
set_option linter.unusedVariables false
set_option linter.unusedSimpArgs false

theorem wpOpsS_step {P : Program} {ops : Array Oper} {Q : Exit → Act → List Frame → World → Prop} {i : Nat} {rest : List Nat} {o : Oper} {a : Act} {cs : List Frame} {w : World} (ho : ops[i]? = some o) (hg : o.guard = none)
    (h : o.wp P a w (fun a' w' => wpOpsS P ops Q rest a' cs w') (fun e a' w' => Q e a' cs w')) : wpOpsS P ops Q (i :: rest) a cs w := by
  have hw : Region.wanted o (yielded ops a.tmps) = true := by simp [Region.wanted, hg]
  simp only [wpOpsS, ho, hw, if_true]
  unfold Oper.wp at h
  split
  · rename_i w' hr
    rw [hr] at h
    exact h.elim
  · exact h
theorem wpOpsS_rec {P : Program} {ops : Array Oper} {Q : Exit → Act → List Frame → World → Prop} {i : Nat} {rest : List Nat} {o : Oper} {a : Act} {c : Frame} {cs : List Frame} {w : World} (ho : ops[i]? = some o) (hg : o.guard = none)
    {tys : Array TypeId} (hop : o.op = .call { callee := .builtin .recover, args := #[], argTypes := tys }) (v : Value) (cs' : List Frame) (hr : recoverD (c :: cs) = some (v, cs') ∨ (recoverD (c :: cs) = none ∧ v = .nilIface ∧ cs' = c :: cs))
    (h : wpOpsS P ops Q rest (a.put o.dst v) cs' w) : wpOpsS P ops Q (i :: rest) a (c :: cs) w := by
  have hw : Region.wanted o (yielded ops a.tmps) = true := by simp [Region.wanted, hg]
  have hrun : (execOp a.eval o).run P w = .ok .recover w := by simp [execOp, hop, resolve, invoke, builtin]
  simp only [wpOpsS, ho, hw, if_true, hrun]
  rcases hr with hr | ⟨hr, rfl, rfl⟩
  · rw [hr]; exact h
  · rw [hr]; exact h
/-- The code that is told of what was thrown. -/
def caughtC : AV → Option Int
  | .nilI => some 0
  | .iface t v => if t = T_trap_Fault then match v with
      | .agg [.int .i64 c] => some c
      | _ => none
    else some 17
  | _ => none
theorem w_caught (x : AV) (c : Int) (hx : caughtC x = some c) : Gives Try.prog F_trap_caught [x] (.int .i64 c) := by
  refine v_trap_caught (by simp) ?_
  cases x <;> simp only [caughtC] at hx <;> try (cases hx; done)
  case nilI =>
    injection hx with hx; subst hx
    simp -implicitDefEqProofs [a_trap_caught, q_trap_caught_0, q_trap_caught_1, q_trap_caught_2, q_trap_caught_3, q_trap_caught_4, q_trap_caught_5, q_trap_caught_6]
  case iface t v =>
    split at hx
    · rename_i ht
      subst ht
      split at hx
      · injection hx with hx; subst hx
        simp -implicitDefEqProofs [a_trap_caught, q_trap_caught_0, q_trap_caught_1, q_trap_caught_2, q_trap_caught_3, q_trap_caught_4, q_trap_caught_5, q_trap_caught_6, q_trap_caught_7]
      · cases hx
    · rename_i ht
      injection hx with hx; subst hx
      simp -implicitDefEqProofs [a_trap_caught, q_trap_caught_0, q_trap_caught_1, q_trap_caught_2, q_trap_caught_3, q_trap_caught_4, q_trap_caught_5, q_trap_caught_6, q_trap_caught_8, ht]
/-! the deferred function that recovers -/
/-- What is deferred by Catch: of a frame that is panicking or returning. -/
def toldBy : FrameMode → Value → FrameMode → Prop
  | .returning, v, u => v = .nilIface ∧ u = .returning
  | .panicking ch, v, u => ch = [{ v := v, recovered := false }] ∧ u = .panicking [{ v := v, recovered := true }]
  | _, _, _ => False
theorem toldBy_rec {u u' : FrameMode} {v : Value} (h : toldBy u v u') (c : Frame) (cs : List Frame) (hc : c.mode = u) :
    recoverD (c :: cs) = some (v, { c with mode := u' } :: cs) ∨ (recoverD (c :: cs) = none ∧ v = .nilIface ∧ { c with mode := u' } :: cs = c :: cs) := by
  cases u with
  | run => exact h.elim
  | returning =>
    obtain ⟨rfl, rfl⟩ := h
    refine .inr ⟨?_, rfl, ?_⟩
    · simp [recoverD, hc]
    · rw [← hc]
  | panicking ch =>
    obtain ⟨rfl, rfl⟩ := h
    exact .inl (by simp [recoverD, hc])
theorem shape_Catch_1 : ∃ o0 o1 o2 : Oper, Try.f131.body = some (.region 0 #[o0, o1, o2] false) ∧ (∃ tys, o0.op = .call { callee := .builtin .recover, args := #[], argTypes := tys }) ∧ o0.guard = none ∧ o0.dst = some 1 ∧
    trOp Try.prog o1.op = some (.call F_trap_caught [(.sc, .t 1)]) ∧ o1.guard = none ∧ o1.dst = some 2 ∧ trOp Try.prog o2.op = some (.store .sc 1 (.t 0) (.t 2)) ∧ o2.guard = none ∧ o2.dst = none :=
  ⟨_, _, _, rfl, ⟨_, rfl⟩, rfl, rfl, by kernel_rfl, rfl, rfl, by kernel_rfl, rfl, rfl⟩
theorem res_Catch_1 : Try.f131.results = #[] := rfl
theorem w_Catch_1 {E : Emb} {A : Heap} {w : World} {g : Nat} {x : AV} {v p : Value} {c c0 : Int} {u u' : FrameMode} (hR : Rep E A w) (hA : A g = some (.var T_api_Code [.int .i64 c0])) (hp : TV E (.ptr g 0) p) (hx : TV E x v) (hxc : caughtC x = some c) (hu : toldBy u v u') :
    CallsD Try.prog F_trap_Catch_1 #[p] u w fun e u2 w' => u2 = u' ∧ (∃ v, e = .returned v) ∧ ∃ E', Rep E' (A.set g (.var T_api_Code [.int .i64 c])) w' ∧ E.Le E' ∧ Same w w' := by
  have hag : x.isAgg = false := by cases x <;> simp [caughtC] at hxc <;> rfl
  obtain ⟨o0, o1, o2, hb, ⟨tys, h0⟩, h0g, h0d, h1, h1g, h1d, h2, h2g, h2d⟩ := shape_Catch_1
  refine callsD_of_wpS g_trap_Catch_1 hb fun c₀ cs hc => ?_
  refine wpS_region ?_
  show wpOpsS Try.prog #[o0, o1, o2] _ [0, 1, 2] _ _ _
  refine wpOpsS_rec (o := o0) rfl h0g h0 v ({ c₀ with mode := u' } :: cs) (toldBy_rec hu c₀ cs hc) ?_
  rw [n_trap_Catch_1, h0d]
  obtain ⟨hl, he⟩ := env0_ok (E := E) (args := [.ptr g 0]) (cargs := #[p]) (D := []) (n := 3) (TVl_cons.2 ⟨_, _, rfl, hp, TVl_nil.2 rfl⟩) (by simp)
  obtain ⟨he1, ha1, hd1⟩ := put_ok he (by simp) (d := some 1) (n := 3) (by decide) hx
  generalize Act.put _ (some 1) v = a1 at *
  refine wpOpsS_step (o := o1) rfl h1g ?_
  refine oper_ok h1 hR he1 (K := fun v A' => v = .int .i64 c ∧ A' = A) (Kp := fun _ _ => False) ?_ ?_ (fun _ _ _ _ _ h => h.elim)
  · have hcl := (w_caught x c hxc).call (A := A) (K := fun v A' => v = .int .i64 c ∧ A' = A) (Kp := fun _ _ => False) (.cons (.refl _) rfl .nil) rfl ⟨rfl, rfl⟩
    cases x <;> simp only [caughtC] at hxc <;> (try (cases hxc; done)) <;>
    · simp -implicitDefEqProofs
      exact hcl
  rintro v1 A1 E1 w1 c1 ⟨rfl, rfl⟩ hR1 hE1 hS1 hc1
  rw [h1d]
  obtain ⟨he2, ha2, hd2⟩ := put_ok (he1.mono hE1) ha1 (d := some 2) (n := 3) (by decide) hc1
  generalize Act.put a1 (some 2) c1 = a2 at *
  refine wpOpsS_step (o := o2) rfl h2g ?_
  refine oper_ok h2 hR1 he2 (K := fun _ A' => A' = A1.set g (.var T_api_Code [.int .i64 c])) (Kp := fun _ _ => False) ?_ ?_ (fun _ _ _ _ _ h => h.elim)
  · simp -implicitDefEqProofs [hA]
  rintro v2 A2 E2 w2 c2 rfl hR2 hE2 hS2 hc2
  rw [h2d]
  refine ⟨by simp only [Act.put]; rw [hd2, hd1], u', rfl, .tuple #[], ?_, rfl, ⟨_, rfl⟩, E2, hR2, hE1.trans hE2, hS1.trans hS2⟩
  simp [results, res_Catch_1]
theorem callable_run {P : Program} {f : FuncId} {args : Array Value} {w : World} (h : callable P f = true) : (callFunc f args).run P w = .ok (.enter f args) w := by
  unfold callable at h
  split at h
  · rename_i fn hf
    simp only [Bool.and_eq_true] at h
    have hbody : ¬ fn.body = none := by intro e; rw [e] at h; simp at h
    have hname : ¬ fn.name = "runtime.NumGoroutine" := by simpa using h.2
    simp [callFunc, hf, hname, hbody]
  · cases h
def c0 : Cont := .var T_api_Code [.int .i64 0]
theorem shape_Catch : ∃ (pre0 pre1 rest : Code) (id : Nat) (o1 o2 : Oper), Try.f113.body = some (.seq pre0 (.seq pre1 (.seq (.region id #[o1, o2] false) rest))) ∧
    trC Try.prog 8 pre0 = some (.region [⟨some 2, .alloc T_api_Code [.int .i64 0], none⟩]) ∧
    trC Try.prog 8 pre1 = some (.seq (.region [⟨some 3, .mv (.t 0), none⟩, ⟨some 4, .xx (.p (.isNil .fn false)) [.t 3], none⟩]) (.cond (.t 4) (.seq (.region [⟨none, .store .sc 1 (.t 2) (.v (.int .i64 1)), none⟩]) .ret) .skip)) ∧
    trOp Try.prog o1.op = some (.xx (.p (.mkF (.func F_trap_Catch_1) 0)) [.t 2]) ∧ o1.guard = none ∧ o1.dst = some 5 ∧
    o2.op = .defer { callee := .value (.tmp 5), args := #[], argTypes := #[] } ∧ o2.guard = none ∧ o2.dst = none ∧
    trC Try.prog 8 rest = some (.seq (.region [⟨some 6, .mv (.t 0), none⟩, ⟨some 7, .callV (.t 6) [], none⟩]) (.seq (.region [⟨none, .store .sc 1 (.t 2) (.v (.int .i64 0)), none⟩]) .ret)) :=
  ⟨_, _, _, _, _, _, rfl, by kernel_rfl, by kernel_rfl, by kernel_rfl, rfl, rfl, rfl, rfl, rfl, by kernel_rfl⟩
theorem res_Catch : trRes Try.prog Try.f113.results.toList = some [.cell 2 .sc 1] := by kernel_rfl
/-- How a call that Catch has made ended, and with which code. -/
def cPost (g : Nat) (K : AV → Heap → Prop) : APost := fun ae env B => env 2 = .ptr g 0 ∧ ∃ c, ((ae = .ret ∧ c = 0) ∨ ∃ v, ae = .pan v ∧ caughtC v = some c) ∧ B g = some c0 ∧ ∃ B' : Heap, B'.Sub (B.set g (.var T_api_Code [.int .i64 c])) ∧ K (.int .i64 c) B'
def endC : AOut → Int → Prop
  | .ret _, c => c = 0
  | .pan v, c => caughtC v = some c
theorem set_same_c {A : Heap} {g : Nat} {c d : Cont} : (A.set g c).set g d = A.set g d := by
  funext x; simp only [set_app]; split <;> rfl
theorem w_Catch {k : FuncId} {first cap : List AV} {A : Heap} {K Kp : AV → Heap → Prop} (hk : callable Try.prog k = true)
    (h : ∀ g, A g = none → SimX Try.prog k (first ++ cap) (A.set g c0) fun o B => ∃ c, endC o c ∧ B g = some c0 ∧ ∃ B' : Heap, B'.Sub (B.set g (.var T_api_Code [.int .i64 c])) ∧ K (.int .i64 c) B') :
    SimX Try.prog F_trap_Catch [.func (.func k) first cap] A (outK K Kp) := by
  intro E w cargs hR hT
  obtain ⟨pre0, pre1, rest, id, o1, o2, hb, hp0, hp1, h1, h1g, h1d, h2, h2g, h2d, hrest⟩ := shape_Catch
  refine calls_of_wp_defers g_trap_Catch hb ?_
  rw [n_trap_Catch]
  obtain ⟨hl, he⟩ := env0_ok (E := E) (D := []) (n := 8) hT (by simp)
  have ha : ({ tmps := cargs ++ Array.replicate (8 - cargs.size) undef, defers := [] } : Act).tmps.size = 8 := by simp at hl; simp; omega
  refine wp_seq (wp_mono (aw_ok (D := []) _ _ hp0 (fun ae env B => ae = .normal ∧ ∃ g, A g = none ∧ env 0 = .func (.func k) first cap ∧ env 2 = .ptr g 0 ∧ B = A.set g c0) _ A ?_ E _ w hR he ha rfl) ?_)
  · show X Try.prog _ _ .done _ A
    simp -implicitDefEqProofs
    intro g hg
    exact ⟨g, by simp [hg, c0]⟩
  rintro e a1 w1 ⟨ae, env1, A1, E1, ⟨rfl, g, hg, e0, e2, rfl⟩, hx, hR1, he1, hE1, hS1, ha1, hd1⟩
  cases hx
  refine wp_seq (wp_mono (aw_ok (D := []) _ _ hp1 (fun ae env B => ae = .normal ∧ env 0 = .func (.func k) first cap ∧ env 2 = .ptr g 0 ∧ B = A.set g c0) _ _ ?_ E1 _ w1 hR1 he1 ha1 hd1) ?_)
  · show X Try.prog _ _ .done _ _
    simp -implicitDefEqProofs [e0, e2]
  rintro e a2 w2 ⟨ae, env2, A2, E2, ⟨rfl, f0, f2, rfl⟩, hx, hR2, he2, hE2, hS2, ha2, hd2⟩
  cases hx
  refine wp_seq (wp_region ?_)
  show wpOps Try.prog #[o1, o2] _ [0, 1] _ _
  have w1' : Region.wanted o1 (yielded #[o1, o2] a2.tmps) = true := by simp [Region.wanted, h1g]
  simp only [wpOps, List.getElem?_toArray, List.getElem?_cons_zero, w1', if_true]
  refine .inl ?_
  refine oper_ok h1 hR2 he2 (K := fun v A' => v = .func (.func F_trap_Catch_1) [] [.ptr g 0] ∧ A' = A.set g c0) (Kp := fun _ _ => False) ?_ ?_ (fun _ _ _ _ _ h => h.elim)
  · simp -implicitDefEqProofs [f2]
  rintro v3 A3 E3 w3 c3 ⟨rfl, rfl⟩ hR3 hE3 hS3 hc3
  rw [h1d]
  obtain ⟨he3, ha3, hd3⟩ := put_ok (he2.mono hE3) ha2 (d := some 5) (n := 8) (by decide) hc3
  have hcl : ∃ p, c3 = .func (.func F_trap_Catch_1) #[] #[p] ∧ TV E3 (.ptr g 0) p := by
    rcases hc3 with ⟨hn, _⟩ | ⟨_, hc3⟩
    · cases hn
    · simp only [VR] at hc3
      obtain ⟨xs, ys, hv, hx1, hy1⟩ := hc3
      injection hv with hv
      rw [TVl_nil] at hx1
      obtain ⟨p, r, hy, hp, hr⟩ := TVl_cons.1 hy1
      rw [TVl_nil] at hr; subst hr
      refine ⟨p, ?_, hp⟩
      rw [hv, show xs = #[] from by cases xs; simp_all, show ys = #[p] from by cases ys; simp_all]
  obtain ⟨p, rfl, hp⟩ := hcl
  have hev : (a2.put (some 5) (.func (.func F_trap_Catch_1) #[] #[p])).eval (.tmp 5) = .func (.func F_trap_Catch_1) #[] #[p] := by
    simp [Act.eval, Act.put, ha2]
  generalize a2.put (some 5) (.func (.func F_trap_Catch_1) #[] #[p]) = a3 at *
  have w2' : Region.wanted o2 (yielded #[o1, o2] a3.tmps) = true := by simp [Region.wanted, h2g]
  simp only [wpOps, List.getElem?_toArray, List.getElem?_cons_succ, List.getElem?_cons_zero, w2', if_true]
  refine .inl ?_
  have hrun : (execOp a3.eval o2).run Try.prog w3 = .ok (.defer { target := .fn (.func F_trap_Catch_1) #[p], args := #[] }) w3 := by
    simp [execOp, h2, resolve, hev, Deferred.ofValue]
  unfold Oper.wp
  rw [hrun]
  show Code.wp Try.prog rest _ (Act.put { a3 with defers := { target := .fn (.func F_trap_Catch_1) #[p], args := #[] } :: a3.defers } o2.dst undef) w3
  rw [h2d, hd3, hd2]
  refine wp_mono (aw_ok (D := [{ target := .fn (.func F_trap_Catch_1) #[p], args := #[] }]) _ _ hrest (cPost g K) _ _ ?_ E3 { tmps := a3.tmps, defers := [{ target := .fn (.func F_trap_Catch_1) #[p], args := #[] }] } w3 hR3 he3 ha3 rfl) ?_
  · show X Try.prog _ _ .done _ _
    simp -implicitDefEqProofs [f0, hk]
    refine (h g hg).mono ?_
    rintro o B ⟨c, h1, h2, h3⟩
    cases o with
    | ret v =>
      have h1 : c = 0 := h1
      subst h1
      simp -implicitDefEqProofs [f2, h2, c0]
      exact h3
    | pan v =>
      simp -implicitDefEqProofs [f2]
      exact ⟨c, h1, h2, h3⟩
  rintro e a4 w4 ⟨ae, env4, A4, E4, ⟨g2, c, hend, hg4, B', hB', hK⟩, hx, hR4, he4, hE4, hS4, ha4, hd4⟩
  have hp4 : TV E4 (.ptr g 0) p := TV_mono hE4 hp
  have fin : ∀ (u u' : FrameMode) (x : AV) (v : Value), TV E4 x v → caughtC x = some c → toldBy u v u' → settle u' = .returning → u ≠ .run → Leaves Try.prog Try.f113 a4.tmps (fun e w' => ∃ o A' E', outK K Kp o A' ∧ Rep E' A' w' ∧ E.Le E' ∧ Same w w' ∧ OutR E' o e) a4.defers u w4 := by
    intro u u' x v hx hxc hu hs hr
    rw [hd4]
    refine leaves_cons hr (callable_run k_trap_Catch_1) ?_
    refine (w_Catch_1 hR4 hg4 hp4 hx hxc hu).mono ?_
    rintro e u2 w5 ⟨rfl, ⟨v5, rfl⟩, E5, hR5, hE5, hS5⟩
    show Leaves _ _ _ _ [] (settle u2) w5
    rw [hs]
    have he5 := he4.mono hE5
    obtain ⟨vs, cs, hvs, hrs, hTs⟩ := aress_ok hR5 he5 Try.f113.results.toList _ (fun vs => vs = [.int .i64 c]) res_Catch (by simp -implicitDefEqProofs [g2])
    subst hvs
    refine ⟨_, run_results hrs, .ret (.int .i64 c), B', E5, hK, hR5.sub hB', ((hE1.trans hE2).trans hE3).trans (hE4.trans hE5), ((hS1.trans hS2).trans hS3).trans (hS4.trans hS5), _, rfl, ?_⟩
    exact out_ok hTs
  rcases hend with ⟨rfl, rfl⟩ | ⟨v, rfl, hv⟩
  · cases hx
    exact fin .returning .returning .nilI .nilIface (.inr ⟨rfl, by simp [VR]⟩) rfl ⟨rfl, rfl⟩ rfl (by simp)
  · obtain ⟨cv, rfl, hcv⟩ := hx
    exact fin _ _ v cv hcv hv ⟨rfl, rfl⟩ rfl (by simp)
def faultV (c : Int) : AV := .iface T_trap_Fault (.agg [.int .i64 c])
theorem w_Throw (c : Int) : Fins Try.prog F_trap_Throw [.int .i64 c] (fun o => o = .pan (faultV c)) := by
  refine e_trap_Throw (by simp) ?_
  simp -implicitDefEqProofs [a_trap_Throw, q_trap_Throw_0, faultV]
theorem catch_of {k : FuncId} {first cap : List AV} {A : Heap} {K Kp : AV → Heap → Prop} (hk : callable Try.prog k = true)
    (h : ∀ g, A g = none → SimX Try.prog k (first ++ cap) (A.set g c0) fun o B => ∃ c A', endC o c ∧ A' g = none ∧ B = A'.set g c0 ∧ K (.int .i64 c) A') :
    SimX Try.prog F_trap_Catch [.func (.func k) first cap] A (outK K Kp) :=
  w_Catch hk fun g hg => (h g hg).mono fun o B ⟨c, A', h1, h2, h3, h4⟩ => ⟨c, h1, by rw [h3]; simp, A', by rw [h3, set_same_c]; exact sub_none h2, h4⟩
end Go.Proofs.Ytfdckjliinpjiaa
