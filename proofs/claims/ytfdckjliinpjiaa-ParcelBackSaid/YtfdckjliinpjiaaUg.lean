/- The walk of parcel.Get: the eye's whole read. -/
import Derived.Test.YtfdckjliinpjiaaUf
namespace Go.Proofs.Ytfdckjliinpjiaa
open Go AVL
attribute [-simp] AV.isAgg aappI aapp alen shp good comps
set_option linter.unusedVariables false
set_option linter.unusedSimpArgs false
set_option maxRecDepth 20000

/-- A text of a request: bytes of a string. -/
def SrT (tv : AV) (l : List Int) (A B : Heap) : Prop := ∃ g, tv = .own g 0 l.length ∧ A g = none ∧ B g = some (.srow T_uint8 .u8 l)
/-- A request as it is read. -/
structure ReqAt (r : Rq) (tv lv : AV) (A B : Heap) : Prop where
  text : SrT tv (ints r.text) A B
  list : SlR T_32_uint8 32 lv (adrs r.list) A B
section
variable {A B C : Heap} {K Kp : AV → Heap → Prop} {g : Nat} {l : List Nat}
theorem SrT.mono {tv : AV} {l : List Int} (h : SrT tv l A B) (hs : B.Sub C) : SrT tv l A C := by
  obtain ⟨g, h1, h2, h3⟩ := h
  exact ⟨g, h1, h2, hs _ _ h3⟩
theorem SrT.base {tv : AV} {l : List Int} (h : SrT tv l B C) (hs : A.Sub B) : SrT tv l A C := by
  obtain ⟨g, h1, h2, h3⟩ := h
  exact ⟨g, h1, sub_noneL hs h2, h3⟩
theorem ReqAt.sub {r : Rq} {tv lv : AV} (h : ReqAt r tv lv A B) : A.Sub B := h.list.sub
theorem ReqAt.mono {r : Rq} {tv lv : AV} (h : ReqAt r tv lv A B) (hs : B.Sub C) : ReqAt r tv lv A C := ⟨h.text.mono hs, h.list.mono hs⟩
theorem ReqAt.base {r : Rq} {tv lv : AV} (h : ReqAt r tv lv B C) (hs : A.Sub B) : ReqAt r tv lv A C := ⟨h.text.base hs, h.list.base hs⟩
def zR : Rq := ⟨0, [], [], [], 0, false, false, [], List.replicate 32 0, []⟩
def zQ : List AV := [.int .i64 0, .str ⟨#[]⟩, .str ⟨#[]⟩, .str ⟨#[]⟩, .int .i64 0, .bool false, .bool false, .nilS, .iarr .u8 32 (List.replicate 32 0), .nilS]
theorem eye_sub {X : Heap} (h : (A.del g).Sub X) {c : Cont} : (A.del g).Sub (X.set g c) := fun y d hy => by
  have hy2 := hy
  rw [del_app] at hy
  split at hy
  · cases hy
  · rename_i hne; rw [set_app, if_neg hne]; exact h _ _ hy2
theorem del_at {X Y : Heap} {x : Nat} {c : Cont} (s : (X.del g).Sub Y) (h : X x = some c) (n : x ≠ g) : Y x = some c := s _ _ (by rw [del_app, if_neg n]; exact h)
theorem del_tr {X Y : Heap} (s : (A.del g).Sub X) (t : (X.del g).Sub Y) : (A.del g).Sub Y := fun y d hy => by
  have hy2 := hy
  rw [del_app] at hy
  split at hy
  · cases hy
  · rename_i hne; exact del_at t (s _ _ hy2) hne
/-- The eye's reads, of a heap of which the eye alone changes. -/
theorem q_num {n : Nat} (hn : n ≤ 8) (hA : A g = some (eyeC l)) (hl : Bytes l) (hp : numD n l = none → ∀ X, (A.del g).Sub X → Kp (faultV 3) X) (hk : ∀ m r X, numD n l = some (m, r) → X g = some (eyeC r) → (A.del g).Sub X → K (.int .u64 m) X) :
    SimX Try.prog F_Pparcel_eye_num [.ptr g 0, .int .i64 n] A (outK K Kp) :=
  w_eye_num hA hl hn (fun m r h => hk m r _ h set_eq' (eye_sub del_sub)) fun h => hp h _ del_sub
theorem q_text {most : Nat} (hm : most < 60000) (hA : A g = some (eyeC l)) (hl : Bytes l) (hp : textD most l = none → ∀ X, (A.del g).Sub X → Kp (faultV 3) X) (hk : ∀ x r X, textD most l = some (x, r) → X g = some (eyeC r) → (A.del g).Sub X → K (.str (sN x)) X) :
    SimX Try.prog F_Pparcel_eye_text [.ptr g 0, .int .i64 most] A (outK K Kp) :=
  w_eye_text hA hl hm (fun x r h => hk x r _ h set_eq' (eye_sub del_sub)) fun h l' => hp h _ (eye_sub del_sub)
theorem q_addr (hA : A g = some (eyeC l)) (hp : takeD 32 l = none → ∀ X, (A.del g).Sub X → Kp (faultV 3) X) (hk : ∀ x r X, takeD 32 l = some (x, r) → X g = some (eyeC r) → (A.del g).Sub X → X = A.set g (eyeC r) → K (.iarr .u8 32 (ints x)) X) :
    SimX Try.prog F_Pparcel_eye_addr [.ptr g 0] A (outK K Kp) :=
  w_eye_addr hA (fun x r h B hB => by subst hB; exact hk x r _ h set_eq' (eye_sub del_sub) rfl) fun h => hp h _ del_sub
theorem sub_at {X Y : Heap} {x : Nat} {c : Cont} (h : X.Sub Y) (hy : Y x = some c) : (X.set x c).Sub Y := fun z d hz => by
  rw [set_app] at hz
  split at hz
  · rename_i e; subst e; rw [hy]; exact hz
  · exact h _ _ hz
theorem _root_.AVL.SlR.delB {e : TypeId} {sz : Nat} {v : AV} {m : List AV} {x : Nat} (h : SlR e sz v m A B) (hx : A x = none) (hn : ∀ n, v ≠ .own x 0 n) : SlR e sz v m A (B.del x) :=
  ⟨sub_del h.sub hx, h.own.imp id fun ⟨g, h1, h2, h3⟩ => ⟨g, h1, h2, by
    have : g ≠ x := by rintro rfl; exact hn _ h1
    rw [del_app, if_neg this]; exact h3⟩⟩
def getT : ACode := (.seq (.seq (.region q_Pparcel_eye_get_15) (.cond (.t 69) (.region q_Pparcel_eye_get_16) .skip)) (.seq (.region q_Pparcel_eye_get_17) .ret))
def c26 (o : Int) (nm ac no : List Nat) (n : Int) (ev pr : Bool) (tv : AV) (ad : List Nat) (lv : AV) : Cont := .var 26 [.int .i64 o, .str (sN nm), .str (sN ac), .str (sN no), .int .i64 n, .bool ev, .bool pr, tv, .iarr .u8 32 (ints ad), lv]
theorem get_loop {R : APost} {o n : Int} {nm ac no t ad b : List Nat} {ev pr : Bool} {cn g2 g3 g4 : Nat} {F X : Heap} {env : AEnv}
    (hk : ∀ r, dec l = some r → ∀ tv lv B', ReqAt r tv lv (A.del g) B' → K (.agg (reqC r tv lv)) B') (hp' : dec l = none → ∀ e B', (A.del g).Sub B' → R (.pan (faultV 3)) e B')
    (hR : ∀ e env A, fpost a_Pparcel_eye_get.res (outK K Kp) e env A → R e env A) (hdec : dec l = (addrsD cn b).bind fun q => if 0 < q.2.length then none else some ⟨o, nm, ac, no, n, ev, pr, t, ad, q.1⟩) (hcn : ¬ 15 < cn)
    (aF : (A.del g).Sub F) (FX : F.Sub X) (Fg : F g = none) (F2 : F g2 = none) (F3 : F g3 = none) (F4 : F g4 = some (.srow 5 .u8 (ints t))) (m4 : (A.del g) g4 = none) (n2 : g2 ≠ g) (n3 : g3 ≠ g) (n23 : g2 ≠ g3)
    (xg : X g = some (eyeC b)) (x2 : X g2 = some (.var 26 zQ)) (x3 : X g3 = some (c26 o nm ac no n ev pr (.own g4 0 t.length) ad .nilS))
    (e0 : env 0 = .ptr g 0) (e2 : env 2 = .ptr g2 0) (e3 : env 3 = .ptr g3 0) (e53 : env 53 = .int .i64 cn) (e54 : env 54 = .int .i64 0) :
    AVL.X Try.prog R (.loop q_Pparcel_eye_get_L15) (.blk 0 (.thn getT .done)) env X := by
  refine X_lp (fun (s : List (List Nat) × List Nat) env X => s.1.length ≤ cn ∧ (addrsD cn b = (addrsD (cn - s.1.length) s.2).map fun q => (s.1 ++ q.1, q.2)) ∧ X g = some (eyeC s.2) ∧ X g2 = some (.var 26 zQ) ∧ (∃ lv, X g3 = some (c26 o nm ac no n ev pr (.own g4 0 t.length) ad lv) ∧ SlR T_32_uint8 32 lv (adrs s.1) F X) ∧ env 0 = .ptr g 0 ∧ env 2 = .ptr g2 0 ∧ env 3 = .ptr g3 0 ∧ env 53 = .int .i64 cn ∧ env 54 = .int .i64 s.1.length) (fun s => cn - s.1.length) ([], b)
    ⟨by simp, by simp, xg, x2, ⟨_, x3, SlR.nil FX⟩, e0, e2, e3, e53, e54⟩ ?_
  clear xg x2 x3 e0 e2 e3 e53 e54
  rintro ⟨L, c⟩ env X ⟨hi, he, xg, x2, ⟨lv, x3, hv⟩, e0, e2, e3, e53, e54⟩
  simp only at hi he xg hv e54
  unfold zQ at x2
  unfold c26 at x3
  have hw := hv.scl
  by_cases hil : L.length < cn
  · have hil' : (L.length : Int) < cn := by omega
    obtain ⟨m, hm⟩ : ∃ m, cn - L.length = m + 1 := ⟨cn - L.length - 1, by omega⟩
    rw [hm] at he
    simp -implicitDefEqProofs [q_Pparcel_eye_get_L15, q_Pparcel_eye_get_12, q_Pparcel_eye_get_13, e0, e2, e3, e53, e54, hil, hil', x3, hw.size, hw.shp, hw.agg, hw.good, hw.comps, hw.st, -List.reduceReplicate]
    refine q_addr xg (fun h Y hs => ?_) fun a c' Y h yg s hY => ?_
    · simp -implicitDefEqProofs [-List.reduceReplicate]
      exact fun _ => hp' (by rw [hdec, he]; simp [addrsD, h]) _ _ (del_tr (sub_tr aF hv.sub) hs)
    have y2 := del_at s x2 n2
    have y3 := del_at s x3 n3
    have hvY : SlR T_32_uint8 32 lv (adrs L) F Y := by rw [hY]; exact hv.set Fg (hv.ne xg (by intro l; simp [eyeC]))
    obtain ⟨Q, q1, q2, q3, q4, q5⟩ := hvY.top
    have al := (takeD_iff.1 h).1
    simp -implicitDefEqProofs [y3, al, hw.size, hw.shp, hw.agg, hw.good, hw.comps, hw.st, -List.reduceReplicate]
    refine ⟨.inr x3.symm, fun g6 h6 => ?_⟩
    refine q3.appS (ys := [adrV a]) (sub_none h6) (src_row set_eq' rfl) rfl (by simp; omega) fun g7 k C' hn h' => ?_
    have c3 := h'.sub _ _ (q4 _ _ y3 (hvY.ne y3 (by intro l; simp)))
    have c2 := h'.sub _ _ (q4 _ _ y2 (hvY.ne y2 (by intro l; simp)))
    have cg := h'.sub _ _ (q4 _ _ yg (hvY.ne yg (by intro l; simp [eyeC])))
    have m37 := h'.not_base (q4 _ _ y3 (hvY.ne y3 (by intro l; simp)))
    have hv2 := (h'.base q1).set (c := c26 o nm ac no n ev pr (.own g4 0 t.length) ad (.own g7 0 k)) F3 m37
    have wi : IntKind.i64.wrap ((L.length : Int) + 1) = (L.length : Int) + 1 := wrap_i64 (by omega)
    simp -implicitDefEqProofs [c3, e3, hw.size, hw.shp, hw.agg, hw.good, hw.comps, hw.st, q_Pparcel_eye_get_14, e54, wi, -List.reduceReplicate]
    refine lp_next (L ++ [a], c') ⟨by simp; omega, ?_, ?_, ?_, ⟨.own g7 0 k, ?_, ?_⟩, by simp [e0], by simp [e2], by simp [e3], by simp [e53], by simp⟩ (by simp; omega)
    · have hm2 : cn - (L.length + 1) = m := by omega
      simp only [List.length_append, List.length_singleton, hm2]
      rw [he]
      simp [addrsD, h, Option.map_map, Function.comp_def]
    · simp only; rw [Heap.set_ne _ _ (Ne.symm n3)]; exact cg
    · rw [Heap.set_ne _ _ n23]; exact c2
    · exact set_eq'
    · unfold c26 at hv2; simpa [adrs] using hv2
  · have hie : L.length = cn := by omega
    have xge : X g = some (.var T_parcel_eye [.isl .u8 (ints c)]) := xg
    rw [hie, Nat.sub_self] at he
    have he2 : addrsD cn b = some (L, c) := by rw [he]; simp [addrsD]
    by_cases hc : 0 < c.length
    · have hc' : 0 < (c.length : Int) := by omega
      have hc2 : ¬ c = [] := by rintro rfl; cases hc
      simp -implicitDefEqProofs [q_Pparcel_eye_get_L15, q_Pparcel_eye_get_12, e0, e2, e3, e53, e54, hie, getT, q_Pparcel_eye_get_15, xge, hc, hc', hc2, q_Pparcel_eye_get_16, -List.reduceReplicate]
      refine throw_call ?_
      simp -implicitDefEqProofs [-List.reduceReplicate]
      exact hp' (by rw [hdec, he2]; simp [hc2]) _ _ (sub_tr aF hv.sub)
    · have hc' : ¬ 0 < (c.length : Int) := by omega
      have hc2 : c = [] := List.eq_nil_of_length_eq_zero (by omega)
      subst hc2
      have h32 : 2 ≠ 3 := by decide
      simp -implicitDefEqProofs [q_Pparcel_eye_get_L15, q_Pparcel_eye_get_12, e0, e2, e3, e53, e54, hie, getT, q_Pparcel_eye_get_15, xge, q_Pparcel_eye_get_17, x2, x3, hw.size, hw.shp, hw.agg, hw.good, hw.comps, hw.st, -List.reduceReplicate]
      refine hR _ _ _ ?_
      have h24 := hv.ne x2 (by intro l; simp)
      have t4 := hv.sub _ _ F4
      simp -implicitDefEqProofs [fpost, a_Pparcel_eye_get, e2, outOf, hw.size, hw.shp, hw.agg, hw.good, hw.comps, hw.st, -List.reduceReplicate]
      refine ⟨X.del g2, ?_, hk ⟨o, nm, ac, no, n, ev, pr, t, ad, L⟩ (by rw [hdec, he2]; simp) _ _ (X.del g2) ⟨⟨g4, by simp, m4, ?_⟩, (hv.delB F2 h24).base aF⟩⟩
      · exact sub_set' del_sub (by rw [del_app, if_pos rfl])
      · rw [del_app, if_neg (by rintro rfl; rw [F2] at F4; cases F4)]; exact t4
theorem w_eye_get (hA : A g = some (eyeC l)) (hl : Bytes l) (hk : ∀ r, dec l = some r → ∀ tv lv B', ReqAt r tv lv (A.del g) B' → K (.agg (reqC r tv lv)) B') (hp : dec l = none → ∀ B', (A.del g).Sub B' → Kp (faultV 3) B') :
    SimX Try.prog F_Pparcel_eye_get [.ptr g 0] A (outK K Kp) := by
  refine i_Pparcel_eye_get (by simp) fun R hR => ?_
  have hp' : dec l = none → ∀ e B', (A.del g).Sub B' → R (.pan (faultV 3)) e B' := fun h e B' hB' => hR _ _ _ (by simp -implicitDefEqProofs [fpost]; exact ⟨B', Sub_refl _, hp h B' hB'⟩)
  simp -implicitDefEqProofs [a_Pparcel_eye_get, q_Pparcel_eye_get_0, q_Pparcel_eye_get_1, -List.reduceReplicate]
  intro g2 h2
  have n2 : g2 ≠ g := Ne.symm (fresh_ne hA h2)
  obtain ⟨X, hX⟩ : ∃ X, A.set g2 (.var 26 zQ) = X := ⟨_, rfl⟩
  have xg : X g = some (eyeC l) := by rw [← hX, Heap.set_ne _ _ (Ne.symm n2)]; exact hA
  have x2 : X g2 = some (.var 26 zQ) := by rw [← hX]; exact set_eq'
  have s0 : (A.del g).Sub X := by rw [← hX]; exact sub_tr del_sub (sub_none h2)
  unfold zQ at hX x2
  rw [hX]
  clear hX
  refine w_eye_take (g := g) (l := l) xg (by decide) (fun m b1 hx => ?_) fun hx => ?_
  case refine_2 =>
    simp -implicitDefEqProofs [-List.reduceReplicate]
    exact fun _ => hp' (by simp [dec, hx]) _ _ s0
  obtain ⟨hm2, hbm⟩ := takeD_iff.1 hx
  have hb1 : Bytes b1 := fun y hy => hl y (by rw [hbm]; simp [hy])
  obtain ⟨X1, hX⟩ : ∃ Y, X.set g (eyeC b1) = Y := ⟨_, rfl⟩
  have yg : X1 g = some (eyeC b1) := by rw [← hX]; exact set_eq'
  have y2 := (show X1 g2 = X g2 by rw [← hX, Heap.set_ne _ _ n2]).trans x2
  have s1 : (A.del g).Sub X1 := by rw [← hX]; exact eye_sub s0
  clear x2 s0
  rw [hX]
  have ht : (ints m).take 2 = ints m := List.take_of_length_le (by simp [hm2])
  simp -implicitDefEqProofs [hm2, ht, -List.reduceReplicate]
  refine w_parcel_mark.call .nil rfl ?_
  by_cases hm : m = [82, 1]
  case neg =>
    have hmi : eqI 2 (ints m) (ints [82, 1]) = false := by rw [eqI_ints hm2 rfl]; simpa using hm
    simp -implicitDefEqProofs [hmi, q_Pparcel_eye_get_2, -List.reduceReplicate]
    refine throw_call ?_
    simp -implicitDefEqProofs [-List.reduceReplicate]
    exact hp' (by simp [dec, hx, hm]) _ _ s1
  subst hm
  have hmi : eqI 2 (ints [82, 1]) (ints [82, 1]) = true := by decide
  simp -implicitDefEqProofs [hmi, q_Pparcel_eye_get_3, -List.reduceReplicate]
  clear hmi ht hm2 hbm
  -- the operation
  refine q_num (n := 8) (by decide) yg hb1 (fun h _ hs => ?_) fun o b12 X12 h12 g12 s => ?_
  · simp -implicitDefEqProofs [-List.reduceReplicate]
    exact hp' (by simp [dec, hx, h]) _ _ (del_tr s1 hs)
  have l12 := numD_lt hb1 h12
  have hb12 := numD_bytes hb1 h12
  have a12 := del_at s y2 n2
  have s12 := del_tr s1 s
  clear s
  have w12 : IntKind.i64.wrap (o : Int) = s64 o := wrap_i64s (by simpa using l12)
  simp -implicitDefEqProofs [w12, -List.reduceReplicate]
  refine q_text (most := 63) (by decide) g12 hb12 (fun h _ hs => ?_) fun nm b13 X13 h13 g13 s => ?_
  · simp -implicitDefEqProofs [-List.reduceReplicate]
    exact hp' (by simp [dec, hx, h12, h]) _ _ (del_tr s12 hs)
  obtain ⟨t13, hb13⟩ := textD_bytes (by decide) hb12 h13
  have a13 := del_at s a12 n2
  have s13 := del_tr s12 s
  clear s
  simp -implicitDefEqProofs [-List.reduceReplicate]
  refine q_text (most := 63) (by decide) g13 hb13 (fun h _ hs => ?_) fun ac b14 X14 h14 g14 s => ?_
  · simp -implicitDefEqProofs [-List.reduceReplicate]
    exact hp' (by simp [dec, hx, h12, h13, h]) _ _ (del_tr s13 hs)
  obtain ⟨t14, hb14⟩ := textD_bytes (by decide) hb13 h14
  have a14 := del_at s a13 n2
  have s14 := del_tr s13 s
  clear s
  simp -implicitDefEqProofs [-List.reduceReplicate]
  refine q_text (most := 63) (by decide) g14 hb14 (fun h _ hs => ?_) fun no b15 X15 h15 g15 s => ?_
  · simp -implicitDefEqProofs [-List.reduceReplicate]
    exact hp' (by simp [dec, hx, h12, h13, h14, h]) _ _ (del_tr s14 hs)
  obtain ⟨t15, hb15⟩ := textD_bytes (by decide) hb14 h15
  have a15 := del_at s a14 n2
  have s15 := del_tr s14 s
  clear s
  simp -implicitDefEqProofs [-List.reduceReplicate]
  refine q_num (n := 8) (by decide) g15 hb15 (fun h _ hs => ?_) fun n b16 X16 h16 g16 s => ?_
  · simp -implicitDefEqProofs [-List.reduceReplicate]
    exact hp' (by simp [dec, hx, h12, h13, h14, h15, h]) _ _ (del_tr s15 hs)
  have l16 := numD_lt hb15 h16
  have hb16 := numD_bytes hb15 h16
  have a16 := del_at s a15 n2
  have s16 := del_tr s15 s
  clear s
  have w16 : IntKind.i64.wrap (n : Int) = s64 n := wrap_i64s (by simpa using l16)
  simp -implicitDefEqProofs [w16, -List.reduceReplicate]
  intro g3 hg3
  have n3 : g3 ≠ g := Ne.symm (fresh_ne g16 hg3)
  have n23 : g2 ≠ g3 := fresh_ne a16 hg3
  obtain ⟨Y, hY⟩ : ∃ Y, X16.set g3 (.var 26 [.int .i64 (s64 o), .str (sN nm), .str (sN ac), .str (sN no), .int .i64 (s64 n), .bool false, .bool false, .nilS, .iarr .u8 32 (List.replicate 32 0), .nilS]) = Y := ⟨_, rfl⟩
  have gY : Y g = some (eyeC b16) := by rw [← hY, Heap.set_ne _ _ (Ne.symm n3)]; exact g16
  have aY := (show Y g2 = X16 g2 by rw [← hY, Heap.set_ne _ _ n23]).trans a16
  have cY : Y g3 = some (.var 26 [.int .i64 (s64 o), .str (sN nm), .str (sN ac), .str (sN no), .int .i64 (s64 n), .bool false, .bool false, .nilS, .iarr .u8 32 (List.replicate 32 0), .nilS]) := by rw [← hY]; exact set_eq'
  have sY : (A.del g).Sub Y := by rw [← hY]; exact sub_tr s16 (sub_none hg3)
  rw [hY]
  clear hY
  simp -implicitDefEqProofs [q_Pparcel_eye_get_4, -List.reduceReplicate]
  refine q_num (n := 1) (by decide) gY hb16 (fun h _ hs => ?_) fun f b17 X17 h17 g17 s => ?_
  · simp -implicitDefEqProofs [-List.reduceReplicate]
    exact hp' (by simp [dec, hx, h12, h13, h14, h15, h16, h]) _ _ (del_tr sY hs)
  have l17 := numD_lt hb16 h17
  have hb17 := numD_bytes hb16 h17
  have a17 := del_at s aY n2
  have s17 := del_tr sY s
  have c17 := del_at s cY n3
  clear s
  have w17 : IntKind.i64.wrap (f : Int) = f := wrap_i64 (by omega)
  have f256 : f < 256 := by simpa using l17
  simp -implicitDefEqProofs [q_Pparcel_eye_get_5, c17, -List.reduceReplicate]
  obtain ⟨ev, hev⟩ : ∃ e, decide (bAnd .u64 (f : Int) 1 = 1) = e := ⟨_, rfl⟩
  obtain ⟨pr, hpr⟩ : ∃ e, decide (bAnd .u64 (f : Int) 2 = 2) = e := ⟨_, rfl⟩
  have N3 : (A.del g) g3 = none := sub_noneL s16 hg3
  rw [hev, hpr]
  obtain ⟨Y2, hY⟩ : ∃ Y, X17.set g3 (.var 26 [.int .i64 (s64 o), .str (sN nm), .str (sN ac), .str (sN no), .int .i64 (s64 n), .bool ev, .bool pr, .nilS, .iarr .u8 32 (List.replicate 32 0), .nilS]) = Y := ⟨_, rfl⟩
  have gY2 : Y2 g = some (eyeC b17) := by rw [← hY, Heap.set_ne _ _ (Ne.symm n3)]; exact g17
  have aY2 := (show Y2 g2 = X17 g2 by rw [← hY, Heap.set_ne _ _ n23]).trans a17
  have cY2 : Y2 g3 = some (.var 26 [.int .i64 (s64 o), .str (sN nm), .str (sN ac), .str (sN no), .int .i64 (s64 n), .bool ev, .bool pr, .nilS, .iarr .u8 32 (List.replicate 32 0), .nilS]) := by rw [← hY]; exact set_eq'
  have sY2 : (A.del g).Sub Y2 := by rw [← hY]; exact sub_set' s17 N3
  rw [hY]
  clear hY
  simp -implicitDefEqProofs [q_Pparcel_eye_get_6, -List.reduceReplicate]
  refine q_text (most := 2049) (by decide) gY2 hb17 (fun h _ hs => ?_) fun t b18 X18 h18 g18 s => ?_
  · simp -implicitDefEqProofs [-List.reduceReplicate]
    exact hp' (by simp [dec, hx, h12, h13, h14, h15, h16, h17, h]) _ _ (del_tr sY2 hs)
  obtain ⟨t18, hb18⟩ := textD_bytes (by decide) hb17 h18
  have a18 := del_at s aY2 n2
  have s18 := del_tr sY2 s
  have c18 := del_at s cY2 n3
  clear s
  have bt : bytesI (sN t) = ints t := bytesI_sN t18
  simp -implicitDefEqProofs [bt, -List.reduceReplicate]
  intro g4 h4
  have n43 : g3 ≠ g4 := fresh_ne c18 h4
  have n4 : g ≠ g4 := fresh_ne g18 h4
  have n42 : g2 ≠ g4 := fresh_ne a18 h4
  have m4 : (A.del g) g4 = none := sub_noneL s18 h4
  simp -implicitDefEqProofs [n43, c18, -List.reduceReplicate]
  obtain ⟨Z, hZ⟩ : ∃ Z, X18.set g4 (.srow 5 .u8 (ints t)) = Z := ⟨_, rfl⟩
  have gZ : Z g = some (eyeC b18) := by rw [← hZ, Heap.set_ne _ _ n4]; exact g18
  have aZ := (show Z g2 = X18 g2 by rw [← hZ, Heap.set_ne _ _ n42]).trans a18
  have sZ : (A.del g).Sub Z := by rw [← hZ]; exact sub_tr s18 (sub_none h4)
  have tZ : Z g4 = some (.srow 5 .u8 (ints t)) := by rw [← hZ]; exact set_eq'
  rw [hZ]
  clear hZ
  obtain ⟨Y3, hY⟩ : ∃ Y, Z.set g3 (.var 26 [.int .i64 (s64 o), .str (sN nm), .str (sN ac), .str (sN no), .int .i64 (s64 n), .bool ev, .bool pr, .own g4 0 t.length, .iarr .u8 32 (List.replicate 32 0), .nilS]) = Y := ⟨_, rfl⟩
  have gY3 : Y3 g = some (eyeC b18) := by rw [← hY, Heap.set_ne _ _ (Ne.symm n3)]; exact gZ
  have aY3 := (show Y3 g2 = Z g2 by rw [← hY, Heap.set_ne _ _ n23]).trans aZ
  have cY3 : Y3 g3 = some (.var 26 [.int .i64 (s64 o), .str (sN nm), .str (sN ac), .str (sN no), .int .i64 (s64 n), .bool ev, .bool pr, .own g4 0 t.length, .iarr .u8 32 (List.replicate 32 0), .nilS]) := by rw [← hY]; exact set_eq'
  have sY3 : (A.del g).Sub Y3 := by rw [← hY]; exact sub_set' sZ N3
  have tY3 : Y3 g4 = some (.srow 5 .u8 (ints t)) := by rw [← hY]; exact (Heap.set_ne _ _ (Ne.symm n43)).trans tZ
  rw [hY]
  clear hY
  simp -implicitDefEqProofs [q_Pparcel_eye_get_7, -List.reduceReplicate]
  refine q_addr gY3 (fun h _ hs => ?_) fun ad b19 X19 h19 g19 s _ => ?_
  · simp -implicitDefEqProofs [-List.reduceReplicate]
    exact hp' (by simp [dec, hx, h12, h13, h14, h15, h16, h17, h18, h]) _ _ (del_tr sY3 hs)
  obtain ⟨t19, hb19⟩ := takeD_bytes hb18 h19
  have a19 := del_at s aY3 n2
  have tX19 := del_at s tY3 (Ne.symm n4)
  have s19 := del_tr sY3 s
  have c19 := del_at s cY3 n3
  clear s
  have t19l := (takeD_iff.1 h19).1
  simp -implicitDefEqProofs [c19, t19l, -List.reduceReplicate]
  obtain ⟨Y4, hY⟩ : ∃ Y, X19.set g3 (.var 26 [.int .i64 (s64 o), .str (sN nm), .str (sN ac), .str (sN no), .int .i64 (s64 n), .bool ev, .bool pr, .own g4 0 t.length, .iarr .u8 32 (ints ad), .nilS]) = Y := ⟨_, rfl⟩
  have gY4 : Y4 g = some (eyeC b19) := by rw [← hY, Heap.set_ne _ _ (Ne.symm n3)]; exact g19
  have aY4 := (show Y4 g2 = X19 g2 by rw [← hY, Heap.set_ne _ _ n23]).trans a19
  have cY4 : Y4 g3 = some (.var 26 [.int .i64 (s64 o), .str (sN nm), .str (sN ac), .str (sN no), .int .i64 (s64 n), .bool ev, .bool pr, .own g4 0 t.length, .iarr .u8 32 (ints ad), .nilS]) := by rw [← hY]; exact set_eq'
  have tY4 : Y4 g4 = some (.srow 5 .u8 (ints t)) := by rw [← hY]; exact (Heap.set_ne _ _ (Ne.symm n43)).trans tX19
  have sY4 : (A.del g).Sub Y4 := by rw [← hY]; exact sub_set' s19 N3
  rw [hY]
  clear hY
  simp -implicitDefEqProofs [q_Pparcel_eye_get_8, -List.reduceReplicate]
  refine q_num (n := 1) (by decide) gY4 hb19 (fun h _ hs => ?_) fun cn b20 X20 h20 g20 s => ?_
  · simp -implicitDefEqProofs [-List.reduceReplicate]
    exact hp' (by simp [dec, hx, h12, h13, h14, h15, h16, h17, h18, h19, h]) _ _ (del_tr sY4 hs)
  have l20 := numD_lt hb19 h20
  have hb20 := numD_bytes hb19 h20
  have a20 := del_at s aY4 n2
  have tX20 := del_at s tY4 (Ne.symm n4)
  have s20 := del_tr sY4 s
  have c20 := del_at s cY4 n3
  clear s
  have w20 : IntKind.i64.wrap (cn : Int) = cn := wrap_i64 (by omega)
  have k256 : cn < 256 := by simpa using l20
  by_cases hfk : 3 < f ∨ 15 < cn
  case pos =>
    by_cases h3f : 3 < f
    · have h3 : 3 < (f : Int) := by omega
      have h3n : ¬ (f : Int) ≤ 3 := by omega
      simp -implicitDefEqProofs [w20, q_Pparcel_eye_get_9, q_Pparcel_eye_get_10, h3, h3n, h3f, -List.reduceReplicate]
      refine throw_call ?_
      simp -implicitDefEqProofs [-List.reduceReplicate]
      exact hp' (by simp [dec, hx, h12, h13, h14, h15, h16, h17, h18, h19, h20, h3f]) _ _ s20
    · have j15 : 15 < cn := by omega
      have h3 : ¬ 3 < (f : Int) := by omega
      have h3n : (f : Int) ≤ 3 := by omega
      have j15' : 15 < (cn : Int) := by omega
      have j15n : ¬ (cn : Int) ≤ 15 := by omega
      simp -implicitDefEqProofs [w20, q_Pparcel_eye_get_9, q_Pparcel_eye_get_10, h3, h3n, h3f, j15', j15n, j15, -List.reduceReplicate]
      refine throw_call ?_
      simp -implicitDefEqProofs [-List.reduceReplicate]
      exact hp' (by simp [dec, hx, h12, h13, h14, h15, h16, h17, h18, h19, h20, j15]) _ _ s20
  have h3 : ¬ 3 < (f : Int) := by omega
  have h3n : (f : Int) ≤ 3 := by omega
  have h3f : ¬ 3 < f := by omega
  have k15 : ¬ 15 < (cn : Int) := by omega
  have k15n : (cn : Int) ≤ 15 := by omega
  have k15f : ¬ 15 < cn := by omega
  have hdec : dec l = (addrsD cn b20).bind fun q => if 0 < q.2.length then none else some ⟨s64 o, nm, ac, no, s64 n, decide (f % 2 = 1), decide (f / 2 % 2 = 1), t, ad, q.1⟩ := by
    simp only [dec, hx, h12, h13, h14, h15, h16, h17, h18, h19, h20, Option.bind_some, if_neg hfk, ne_eq, not_true, if_false]
  have ee : ev = decide (f % 2 = 1) ∧ pr = decide (f / 2 % 2 = 1) := by
    rw [← hev, ← hpr]
    have : f = 0 ∨ f = 1 ∨ f = 2 ∨ f = 3 := by omega
    rcases this with rfl | rfl | rfl | rfl <;> decide
  rw [← ee.1, ← ee.2] at hdec
  simp -implicitDefEqProofs [w20, q_Pparcel_eye_get_9, q_Pparcel_eye_get_11, h3, h3n, h3f, k15, k15n, k15f, -List.reduceReplicate]
  obtain ⟨F, hF⟩ : ∃ F, (A.del g).set g4 (.srow 5 .u8 (ints t)) = F := ⟨_, rfl⟩
  have aF : (A.del g).Sub F := by rw [← hF]; exact sub_none m4
  have F20 : F.Sub X20 := by rw [← hF]; exact sub_at s20 tX20
  have Fg : F g = none := by rw [← hF, Heap.set_ne _ _ n4, del_app, if_pos rfl]
  have F2 : F g2 = none := by rw [← hF, Heap.set_ne _ _ n42]; exact sub_noneL del_sub h2
  have F3 : F g3 = none := by rw [← hF, Heap.set_ne _ _ n43]; exact N3
  have F4 : F g4 = some (.srow 5 .u8 (ints t)) := by rw [← hF]; exact set_eq'
  clear hx h12 h13 h14 h15 h16 h17 h18 h19 h20
  exact get_loop hk hp' hR hdec k15f aF F20 Fg F2 F3 F4 m4 n2 n3 n23 g20 a20 c20 (by simp) (by simp) (by simp) (by simp) (by simp)
end
end Go.Proofs.Ytfdckjliinpjiaa
