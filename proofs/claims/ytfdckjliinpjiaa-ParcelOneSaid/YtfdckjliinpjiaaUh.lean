/- The walk of parcel.Get. -/
import Derived.Test.YtfdckjliinpjiaaUg
namespace Go.Proofs.Ytfdckjliinpjiaa
open Go AVL
attribute [-simp] AV.isAgg aappI aapp alen shp good comps
set_option linter.unusedVariables false
set_option linter.unusedSimpArgs false
set_option maxRecDepth 20000

section
variable {A B C : Heap} {K Kp : AV → Heap → Prop} {r : Rq} {tv lv : AV}
theorem SrT.not_base {l : List Int} (h : SrT tv l A B) {x : Nat} {c : Cont} (hx : A x = some c) : ∀ n, tv ≠ .own x 0 n := fun n e => by
  obtain ⟨g, h1, h2, _⟩ := h
  rw [e] at h1; injection h1 with h1; subst h1; rw [hx] at h2; cases h2
theorem SrT.set {l : List Int} {x : Nat} {c : Cont} (h : SrT tv l A B) (hn : ∀ n, tv ≠ .own x 0 n) : SrT tv l A (B.set x c) := by
  obtain ⟨g, h1, h2, h3⟩ := h
  refine ⟨g, h1, h2, ?_⟩
  rw [Heap.set_ne]; exact h3
  rintro rfl; exact hn _ h1
theorem ReqAt.set {x : Nat} {c : Cont} (h : ReqAt r tv lv A B) (hx : A x = none) (h1 : ∀ n, tv ≠ .own x 0 n) (h2 : ∀ n, lv ≠ .own x 0 n) : ReqAt r tv lv A (B.set x c) := ⟨h.text.set h1, h.list.set hx h2⟩
theorem SrT.scl {l : List Int} (h : SrT tv l A B) : Scl tv := by
  obtain ⟨g, rfl, _⟩ := h
  exact ⟨rfl, rfl, rfl, rfl, rfl, rfl, rfl⟩
theorem SrT.vw {l : List Int} (h : SrT tv l A B) : Vw B tv (.isl .u8 l) := by
  obtain ⟨g, rfl, h2, h3⟩ := h
  have := Vw.ownS (i := 0) (n := l.length) h3 (by omega)
  rwa [List.drop_zero, List.take_length] at this
theorem ReqAt.vw (h : ReqAt r tv lv A B) : Vw B (.agg (reqC r tv lv)) (reqV r) :=
  .agg (.cons (.refl _) (.cons (.refl _) (.cons (.refl _) (.cons (.refl _) (.cons (.refl _) (.cons (.refl _) (.cons (.refl _) (.cons h.text.vw (.cons (.refl _) (.cons h.list.vw .nil))))))))))
theorem del_mono {x : Nat} (h : A.Sub B) : (A.del x).Sub (B.del x) := fun y d hy => by
  rw [del_app] at hy ⊢
  split at hy
  · cases hy
  · rename_i hn; rw [if_neg hn]; exact h _ _ hy
theorem w_Try_Req {k : FuncId} {first cap : List AV} {x : Nat} {cx : Cont} (hk : callable Try.prog k = true) (res : Option Rq) (hx : A x = some cx)
    (h : ∀ (B : Heap) (K1 Kp1 : AV → Heap → Prop), A.Sub B → (∀ r, res = some r → ∀ tv lv B', ReqAt r tv lv (B.del x) B' → K1 (.agg (reqC r tv lv)) B') → (res = none → ∀ B', (B.del x).Sub B' → Kp1 (faultV 3) B') → SimX Try.prog k (first ++ cap) B (outK K1 Kp1))
    (h1 : ∀ r, res = some r → ∀ tv lv B', ReqAt r tv lv (A.del x) B' → K (.tuple [.agg (reqC r tv lv), .int .i64 0]) B')
    (h2 : res = none → ∀ B', (A.del x).Sub B' → K (.tuple [.agg zQ, .int .i64 3]) B') : SimX Try.prog F_trap_Try_api_Request [.func (.func k) first cap] A (outK K Kp) := by
  refine j_trap_Try_api_Request (by simp) ?_
  simp -implicitDefEqProofs [a_trap_Try_api_Request, q_trap_Try_api_Request_0, q_trap_Try_api_Request_1, q_trap_Try_api_Request_3, pop, nilOf, -List.reduceReplicate]
  intro g1 h10 g2 n21 n12 h20
  simp -implicitDefEqProofs [n21, n12, pop, nilOf, -List.reduceReplicate]
  refine w_Catch (by simp) fun gc hgc => ?_
  simp only [set_none] at hgc
  obtain ⟨c1, c2, c3, c4, c5⟩ := hgc
  refine i_trap_Try_api_Request_1 (by simp) fun R2 hR2 => ?_
  have hs1 : A.Sub ((A.set g1 (.var 109 [.func (.func k) first cap])).set g2 (.var 26 zQ)) := sub_new (sub_none h10) (by simp [n21, n12, h20])
  have hs2 := sub_new (g := gc) (c := c0) hs1 (by simp [c1, c2, c3, c4, c5])
  have x2 : g2 ≠ x := by rintro rfl; rw [hx] at h20; cases h20
  have xc : gc ≠ x := by rintro rfl; rw [hx] at c5; cases c5
  unfold zQ at hs1 hs2
  simp -implicitDefEqProofs [a_trap_Try_api_Request_1, q_trap_Try_api_Request_1_0, n21, n12, c1, c2, c3, c4, hk, -List.reduceReplicate]
  refine h _ _ _ hs2 (fun r hr tv lv B' hB' => ?_) (fun hn B' hB'' => ?_)
  · have b2 := hB'.sub g2 _ (show _ = some (.var 26 zQ) by rw [del_app, if_neg x2]; simp [c2, n21, zQ])
    have bc := hB'.sub gc c0 (by rw [del_app, if_neg xc]; exact set_eq')
    have hT := hB'.text.scl
    have hL := hB'.list.scl
    have v2 := hB'.list.not_base (x := g2) (show _ = some (.var 26 zQ) by rw [del_app, if_neg x2]; simp [c2, n21, zQ])
    have vc := hB'.list.not_base (x := gc) (c := c0) (by rw [del_app, if_neg xc]; exact set_eq')
    have t2 := hB'.text.not_base (x := g2) (show _ = some (.var 26 zQ) by rw [del_app, if_neg x2]; simp [c2, n21, zQ])
    have tc := hB'.text.not_base (x := gc) (c := c0) (by rw [del_app, if_neg xc]; exact set_eq')
    have hA := hB'.base (del_mono hs2)
    have D2 : (A.del x) g2 = none := sub_noneL del_sub h20
    have Dc : (A.del x) gc = none := sub_noneL del_sub c5
    unfold zQ at b2
    unfold reqC
    simp -implicitDefEqProofs [b2, hT.agg, hT.good, hT.comps, hT.st, hT.shp, hT.size, hL.agg, hL.good, hL.comps, hL.st, hL.shp, hL.size, -List.reduceReplicate]
    refine hR2 _ _ _ ⟨_, Sub_refl _, 0, rfl, by simp [c1, c2, bc], _, Sub_refl _, ?_⟩
    simp -implicitDefEqProofs [q_trap_Try_api_Request_4, q_trap_Try_api_Request_7, c1, c2, hT.agg, hT.good, hT.comps, hT.st, hT.shp, hT.size, hL.agg, hL.good, hL.comps, hL.st, hL.shp, hL.size, outOf, -List.reduceReplicate]
    exact h1 r hr tv lv _ (((hA.set D2 t2 v2).set Dc tc vc).set D2 t2 v2)
  · have b2 := hB'' g2 _ (show _ = some (.var 26 zQ) by rw [del_app, if_neg x2]; simp [c2, n21, zQ])
    have bc := hB'' gc c0 (by rw [del_app, if_neg xc]; exact set_eq')
    have D2 : (A.del x) g2 = none := sub_noneL del_sub h20
    have Dc : (A.del x) gc = none := sub_noneL del_sub c5
    unfold zQ at b2
    simp -implicitDefEqProofs [-List.reduceReplicate]
    refine hR2 _ _ _ ⟨_, Sub_refl _, 3, rfl, bc, _, Sub_refl _, ?_⟩
    simp -implicitDefEqProofs [q_trap_Try_api_Request_4, q_trap_Try_api_Request_5, q_trap_Try_api_Request_6, b2, c1, c2, outOf, -List.reduceReplicate]
    intro g5 n5 n6 h5
    have m5 := fresh_ne b2 h5
    simp -implicitDefEqProofs [b2, m5, Ne.symm m5, c1, c2, -List.reduceReplicate]
    have hB3 := sub_tr (del_mono hs2) hB''
    exact h2 hn _ (sub_set' (sub_set' (sub_set' hB3 Dc) (sub_noneL hB3 h5)) D2)
theorem SrT_only {l : List Int} {m : List AV} (h : SrT tv l A B) (hl : tv ∈ m) : SrT tv l H0 (B.only m) := by
  obtain ⟨g, h1, h2, h3⟩ := h
  refine ⟨g, h1, rfl, ?_⟩
  simp only [Heap.only]; rw [if_pos]; exact h3
  simp only [List.any_eq_true]; exact ⟨tv, hl, by rw [h1]; simp [owns]⟩
theorem SrT_join {l : List Int} (h : SrT tv l H0 B) (hd : ∀ g c, B g = some c → A g = none) : SrT tv l A (A.join B) := by
  obtain ⟨g, h1, h2, h3⟩ := h
  exact ⟨g, h1, hd g _ h3, by simp only [Heap.join, hd g _ h3]; exact h3⟩
theorem noFs_adrs : ∀ l : List (List Nat), AV.noFs (adrs l) = true
  | [] => rfl
  | a :: l => by simp only [adrs, List.map_cons, AV.noFs]; rw [show List.map adrV l = adrs l from rfl, noFs_adrs l]; rfl
theorem req_noF (h : ReqAt r tv lv A B) : ∀ g c, (B.only [tv, lv]) g = some c → c.noF = true := by
  intro g c hg
  simp only [Heap.only, List.any_cons, List.any_nil, Bool.or_false] at hg
  split at hg
  · rename_i ho
    rw [Bool.or_eq_true] at ho
    obtain ⟨g1, h1, _, h3⟩ := h.text
    rcases ho with ho | ho
    · rw [h1] at ho; simp [owns] at ho; subst ho; rw [h3] at hg; injection hg with hg; subst hg; rfl
    · rcases h.list.own with ⟨e, _⟩ | ⟨g2, e, _, h4⟩
      · rw [e] at ho; simp [owns] at ho
      · rw [e] at ho; simp [owns] at ho; subst ho; rw [h4] at hg; injection hg with hg; subst hg; exact noFs_adrs _
  · cases hg
def GetP (b : List Nat) (o : AOut) (B : Heap) : Prop :=
  match dec b with
  | some r => ∃ tv lv, o = .ret (.tuple [.agg (reqC r tv lv), .int .i64 0]) ∧ ReqAt r tv lv H0 B ∧ ∀ g c, B g = some c → c.noF = true
  | none => o = .ret (.tuple [.agg zQ, .int .i64 3]) ∧ B = H0
theorem w_parcel_Get {b : List Nat} (hb : Bytes b) : SimX Try.prog F_parcel_Get [il b] H0 (GetP b) := by
  refine i_parcel_Get (by simp) fun R hR => ?_
  simp -implicitDefEqProofs [a_parcel_Get, q_parcel_Get_0, q_parcel_Get_1, q_parcel_Get_2, il, pop, -List.reduceReplicate]
  intro g2 g4 n4 n4'
  refine w_Try_Req (x := g4) (cx := eyeC b) (by simp) (dec b) (by simp [eyeC]) (fun B K1 Kp1 hB h1 h2 => ?_) (fun r hr tv lv B' hB' => ?_) (fun hn B' hB' => ?_)
  · exact w_eye_get (hB g4 _ (by simp [eyeC])) hb h1 h2
  · have b2 := hB'.sub g2 _ (show _ = some (.var 26 zQ) by rw [del_app, if_neg n4']; simp [n4, n4', zQ])
    have hT := hB'.text.scl
    have hL := hB'.list.scl
    have v2 := hB'.list.not_base (x := g2) (show _ = some (.var 26 zQ) by rw [del_app, if_neg n4']; simp [n4, n4', zQ])
    have t2 := hB'.text.not_base (x := g2) (show _ = some (.var 26 zQ) by rw [del_app, if_neg n4']; simp [n4, n4', zQ])
    have h0 := (hB'.base (H0_sub _)).set (c := .var 26 (reqC r tv lv)) rfl t2 v2
    unfold zQ at b2
    unfold reqC at h0 ⊢
    simp -implicitDefEqProofs [b2, hT.agg, hT.good, hT.comps, hT.st, hT.shp, hT.size, hL.agg, hL.good, hL.comps, hL.st, hL.shp, hL.size, -List.reduceReplicate]
    refine hR _ _ _ ?_
    simp -implicitDefEqProofs [fpost, a_parcel_Get, outOf, GetP, hr, hT.agg, hT.good, hT.comps, hT.st, hT.shp, hT.size, hL.agg, hL.good, hL.comps, hL.st, hL.shp, hL.size, -List.reduceReplicate]
    exact ⟨_, only_sub _ [tv, lv], tv, lv, rfl, ⟨SrT_only h0.text (by simp), SlR_only h0.list (by simp)⟩, req_noF h0⟩
  · have b2 := hB' g2 _ (show _ = some (.var 26 zQ) by rw [del_app, if_neg n4']; simp [n4, n4', zQ])
    unfold zQ at b2 ⊢
    simp -implicitDefEqProofs [b2, -List.reduceReplicate]
    refine hR _ _ _ ?_
    simp -implicitDefEqProofs [fpost, a_parcel_Get, outOf, GetP, hn, zQ, -List.reduceReplicate]
/-- As a call. -/
theorem parcel_Get_call {b : List Nat} (hb : Bytes b) {A : Heap} {x : AV} {K Kp : AV → Heap → Prop} (hv : Vw A x (il b)) (hx : x.isAgg = false) (hn : dec b = none → K (.tuple [.agg zQ, .int .i64 3]) A)
    (hy : ∀ r, dec b = some r → ∀ tv lv B, ReqAt r tv lv A B → K (.tuple [.agg (reqC r tv lv), .int .i64 0]) B) : SimX Try.prog F_parcel_Get [x] A (outK K Kp) := by
  refine SimX.view (w_parcel_Get hb) (.cons hv (by rw [hx]; rfl) .nil) (fun o B h => ?_) (fun o B h hd => ?_)
  · unfold GetP at h
    split at h
    · obtain ⟨tv, lv, rfl, h1, h2⟩ := h
      refine ⟨?_, h2⟩
      have e1 := h1.text.scl.noF
      have e2 := h1.list.scl.noF
      simp [AOut.noF, reqC, AV.noF, AV.noFs, e1, e2]
    · obtain ⟨rfl, rfl⟩ := h
      exact ⟨rfl, fun g c hc => by cases hc⟩
  · unfold GetP at h
    split at h
    · rename_i r hr
      obtain ⟨tv, lv, rfl, h1, h2⟩ := h
      exact hy r hr tv lv _ ⟨SrT_join h1.text hd, SlR_join h1.list hd⟩
    · rename_i hr
      obtain ⟨rfl, rfl⟩ := h
      rw [join_H0]; exact hn hr
end
end Go.Proofs.Ytfdckjliinpjiaa
