/- The walks of law24. -/
import Derived.Test.YtfdckjliinpjiaaUh
namespace Go.Proofs.Ytfdckjliinpjiaa
open Go AVL
attribute [-simp] AV.isAgg aappI aapp alen shp good comps abuild
set_option linter.unusedVariables false
set_option linter.unusedSimpArgs false
set_option maxRecDepth 20000

section
variable {A B C : Heap} {K Kp : AV → Heap → Prop}
def pq (c : Int) (v : AV) : AV := .tuple [v, .int .i64 c]
theorem pq_noF (c : Int) (v : AV) (h : v.noF = true) : (pq c v).noF = true := by simp [pq, AV.noF, AV.noFs, h]
def ad (k : Nat) : List Nat := k :: List.replicate 31 0
theorem zero_bytes (n : Nat) : Bytes (List.replicate n 0) := fun x hx => by rw [List.eq_of_mem_replicate hx]; decide
theorem ad_Adr {k : Nat} (h : k < 256) : Adr (ad k) := ⟨fun x hx => by
  rcases List.mem_cons.1 hx with rfl | hx
  · exact h
  · exact zero_bytes _ x hx, by simp [ad]⟩
theorem build_ad (env : AEnv) (A : Heap) (K : AV → Heap → Prop) (k : Nat) : abuild (.ia .u8 32) [.iarr .u8 32 (List.replicate 32 0)] [(0, (1, (.v (.int .u8 (k : Int)))))] env A K = K (adrV (ad k)) A := by
  kernel_rfl
theorem build_ad1 (env : AEnv) (A : Heap) (K : AV → Heap → Prop) : abuild (.ia .u8 32) [.iarr .u8 32 (List.replicate 32 0)] [(0, (1, (.v (.int .u8 1))))] env A K = K (adrV (ad 1)) A := build_ad env A K 1
theorem build_ad2 (env : AEnv) (A : Heap) (K : AV → Heap → Prop) : abuild (.ia .u8 32) [.iarr .u8 32 (List.replicate 32 0)] [(0, (1, (.v (.int .u8 2))))] env A K = K (adrV (ad 2)) A := build_ad env A K 2
theorem build_ad3 (env : AEnv) (A : Heap) (K : AV → Heap → Prop) : abuild (.ia .u8 32) [.iarr .u8 32 (List.replicate 32 0)] [(0, (1, (.v (.int .u8 3))))] env A K = K (adrV (ad 3)) A := build_ad env A K 3
def rW : Rq := ⟨5, [116, 97, 120], [], [], -1, false, true, [120], ad 1, [ad 2, ad 3]⟩
theorem rW_ok : rW.Wf := ⟨by simp [rW, I64], by simp [rW, I64], by simp [rW, Bytes], by simp [rW, Bytes], by simp [rW, Bytes], by simp [rW, Bytes], ad_Adr (by decide), fun a ha => by
  have : a = ad 2 ∨ a = ad 3 := by simpa [rW] using ha
  rcases this with rfl | rfl <;> exact ad_Adr (by decide)⟩
theorem rW_fits : rW.Fits := by unfold Rq.Fits; decide
theorem z_Adr : Adr (List.replicate 32 0) := ⟨zero_bytes _, by simp⟩
theorem zR_ok : zR.Wf := ⟨by simp [zR, I64], by simp [zR, I64], by simp [zR, Bytes], by simp [zR, Bytes], by simp [zR, Bytes], by simp [zR, Bytes], z_Adr, by simp [zR]⟩
def rN : Rq := { zR with name := List.replicate 64 0 }
def rL : Rq := { zR with list := List.replicate 16 (List.replicate 32 0) }
theorem rN_ok : rN.Wf := ⟨by simp [rN, zR, I64], by simp [rN, zR, I64], zero_bytes 64, by simp [rN, zR, Bytes], by simp [rN, zR, Bytes], by simp [rN, zR, Bytes], z_Adr, by simp [rN, zR]⟩
theorem rL_ok : rL.Wf := ⟨by simp [rL, zR, I64], by simp [rL, zR, I64], by simp [rL, zR, Bytes], by simp [rL, zR, Bytes], by simp [rL, zR, Bytes], by simp [rL, zR, Bytes], z_Adr, fun a ha => by rw [List.eq_of_mem_replicate ha]; exact z_Adr⟩
theorem errR_W : errR rW = 0 := rW_fits
theorem errR_N : errR rN = 15 := by simp [errR, rN]
theorem errR_L : errR rL = 7 := by simp [errR, rL, zR]
theorem zQ_vw : Vw A (.agg zQ) (reqV zR) :=
  .agg (.cons (.refl _) (.cons (.refl _) (.cons (.refl _) (.cons (.refl _) (.cons (.refl _) (.cons (.refl _) (.cons (.refl _) (.cons (.nil .u8) (.cons (.refl _) (.cons (.nilD 32) .nil))))))))))
theorem vw_req {r : Rq} {tv lv : AV} (h1 : Vw A tv (il r.text)) (h2 : Vw A lv (.dsl 32 (adrs r.list))) : Vw A (.agg (reqC r tv lv)) (reqV r) :=
  .agg (.cons (.refl _) (.cons (.refl _) (.cons (.refl _) (.cons (.refl _) (.cons (.refl _) (.cons (.refl _) (.cons (.refl _) (.cons h1 (.cons (.refl _) (.cons h2 .nil))))))))))
theorem _root_.AVL.SlS.not_new {e : TypeId} {k : IntKind} {v : AV} {l : List Int} (h : SlS e k v l A B) {x : Nat} (hx : B x = none) : ∀ n, v ≠ .own x 0 n := fun n e => by
  rcases h.own with ⟨rfl, _⟩ | ⟨g, h1, _, h3⟩
  · cases e
  · rw [h1] at e; injection e with e; subst e; rw [hx] at h3; cases h3
/-- A request stays, where all that is new to its base stays. -/
theorem ReqAt.keep {r : Rq} {tv lv : AV} (h : ReqAt r tv lv A B) (hq : ∀ x c, B x = some c → A x = none → C x = some c) : ReqAt r tv lv H0 C := by
  obtain ⟨g, h1, h2, h3⟩ := h.text
  exact ⟨⟨g, h1, rfl, hq _ _ h3 h2⟩, H0_sub _, h.list.own.imp id fun ⟨g2, e1, e2, e3⟩ => ⟨g2, e1, rfl, hq _ _ e3 e2⟩⟩
theorem rW_no : dec (enc rW ++ [0]) = none := by decide +kernel
theorem rW_len : (enc rW).length = 128 := by decide +kernel
theorem rW_Bytes : Bytes (enc rW) := enc_bytes rW_ok rW_fits
theorem strN : strOf (List.replicate 64 0) = sN (List.replicate 64 0) := by simp [sN, ints]
theorem vw_N : Vw A (.agg [.int .i64 0, .str (strOf (List.replicate 64 0)), .str ⟨#[]⟩, .str ⟨#[]⟩, .int .i64 0, .bool false, .bool false, .nilS, .iarr .u8 32 (List.replicate 32 0), .nilS]) (reqV rN) := by
  rw [strN]
  exact .agg (.cons (.refl _) (.cons (.refl _) (.cons (.refl _) (.cons (.refl _) (.cons (.refl _) (.cons (.refl _) (.cons (.refl _) (.cons (.nil .u8) (.cons (.refl _) (.cons (.nilD 32) .nil))))))))))
theorem adrs_z (n : Nat) : adrs (List.replicate n (List.replicate 32 0)) = List.replicate n (.iarr .u8 32 (List.replicate 32 0)) := by simp [adrs, adrV, ints]
theorem vw_L {v : AV} (h : Vw A v (.dsl 32 (List.replicate 16 (.iarr .u8 32 (List.replicate 32 0))))) : Vw A (.agg [.int .i64 0, .str ⟨#[]⟩, .str ⟨#[]⟩, .str ⟨#[]⟩, .int .i64 0, .bool false, .bool false, .nilS, .iarr .u8 32 (List.replicate 32 0), v]) (reqV rL) := by
  rw [← adrs_z] at h
  exact .agg (.cons (.refl _) (.cons (.refl _) (.cons (.refl _) (.cons (.refl _) (.cons (.refl _) (.cons (.refl _) (.cons (.refl _) (.cons (.nil .u8) (.cons (.refl _) (.cons h .nil))))))))))
theorem w_law24_works : Gives Try.prog F_law24_works [] (.bool true) := by
  refine v_law24_works (by simp) ?_
  simp -implicitDefEqProofs [a_law24_works, q_law24_works_0, q_law24_works_1, build_ad1, build_ad2, build_ad3, adrV, -List.reduceReplicate]
  intro g1 gl
  simp -implicitDefEqProofs [abuild, -List.reduceReplicate]
  intro g0 n1 n2
  simp -implicitDefEqProofs [q_law24_works_2, -List.reduceReplicate]
  refine (w_parcel_Put rW_ok).call (.cons (vw_req (r := rW) (.refl _) (vw_row (t := 23) (by simp [n1, n2]; rfl) rfl)) rfl .nil) (pq_noF _) fun v B hB => ?_
  rw [if_pos errR_W] at hB
  rw [errR_W]
  have b0 := hB.sub g0 _ set_eq'
  have bl := hB.sub gl _ (show _ = some (Cont.row 23 32 (adrs [ad 2, ad 3])) by simp [n1, n2]; rfl)
  simp -implicitDefEqProofs [pq, hB.agg, q_law24_works_3, -List.reduceReplicate]
  refine parcel_Get_call rW_Bytes hB.vw hB.agg (fun h => by rw [dec_enc rW_ok rW_fits] at h; cases h) fun r1 hr1 tv lv B1 hR1 => ?_
  rw [dec_enc rW_ok rW_fits] at hr1
  injection hr1 with hr1
  subst hr1
  have hT := hR1.text.scl
  have hL := hR1.list.scl
  unfold reqC
  simp -implicitDefEqProofs [hT.agg, hT.good, hT.comps, hT.st, hT.shp, hT.size, hL.agg, hL.good, hL.comps, hL.st, hL.shp, hL.size, -List.reduceReplicate]
  intro g4 h4
  obtain ⟨X, hX⟩ : ∃ X, B1.set g4 (.var 26 (reqC rW tv lv)) = X := ⟨_, rfl⟩
  have sX : B1.Sub X := by rw [← hX]; exact sub_none h4
  have x0 := sX _ _ (hR1.sub _ _ b0)
  have xl := sX _ _ (hR1.sub _ _ bl)
  have x4 : X g4 = some (.var 26 (reqC rW tv lv)) := by rw [← hX]; exact set_eq'
  have hBX := hB.mono (sub_tr hR1.sub sX)
  have hRX := hR1.mono sX
  have n4 : ∀ n, v ≠ .own g4 0 n := hB.not_new (sub_noneL hR1.sub h4)
  unfold reqC at hX
  rw [hX]
  clear hX
  simp -implicitDefEqProofs [q_law24_works_4, -List.reduceReplicate]
  intro g5 h5
  obtain ⟨Q, q1, q2, q3, q4, q5⟩ := hBX.top
  refine q3.appS (ys := [0]) (sub_none h5) (srcI_row set_eq' rfl) (by simp [rW_len]) fun v2 C2 hv2 hag2 => ?_
  have hv2' : SlS T_uint8 .u8 v2 (ints (enc rW ++ [0])) Q C2 := by simpa [ints] using hv2
  have y0 := hv2.sub _ _ (q4 _ _ x0 (hBX.ne x0 (by intro l; simp)))
  have yl := hv2.sub _ _ (q4 _ _ xl (hBX.ne xl (by intro l; simp)))
  have y4 := hv2.sub _ _ (q4 _ _ x4 n4)
  have hRY : ReqAt rW tv lv H0 C2 := hRX.keep fun x c hx hn => hv2.sub _ _ (q4 x c hx (hB.not_new hn))
  simp -implicitDefEqProofs [hag2, -List.reduceReplicate]
  refine parcel_Get_call (b := enc rW ++ [0]) (bytes_append rW_Bytes (by unfold Bytes; decide)) hv2'.vw hag2 (fun _ => ?_) fun r h => by rw [rW_no] at h; cases h
  simp -implicitDefEqProofs [zQ, q_law24_works_5, -List.reduceReplicate]
  intro g6 h6 g7 n67 n76 h7
  simp -implicitDefEqProofs [abuild, -List.reduceReplicate]
  refine (w_parcel_Put rN_ok).call (.cons vw_N rfl .nil) (pq_noF _) fun v3 C3 hv3 => ?_
  obtain ⟨Y, hY⟩ : ∃ Y, (C2.set g6 (.var 26 zQ)).set g7 (.irow 5 .u8 (List.replicate 64 0)) = Y := ⟨_, rfl⟩
  have sY : C2.Sub Y := by rw [← hY]; exact sub_new (sub_none h6) (by simp [n67, n76, h7])
  unfold zQ at hY
  rw [hY] at hv3
  have s3 := sub_tr sY hv3.sub
  clear hY
  rw [errR_N]
  simp -implicitDefEqProofs [pq, hv3.agg, q_law24_works_6, -List.reduceReplicate]
  intro g8 h8
  simp -implicitDefEqProofs [abuild, -List.reduceReplicate]
  refine (w_parcel_Put rL_ok).call (.cons (vw_L (vw_row set_eq' rfl)) rfl .nil) (pq_noF _) fun v5 C5 hv5 => ?_
  have s5 := sub_tr s3 (sub_tr (sub_none h8) hv5.sub)
  rw [errR_L]
  have z0 := s5 _ _ y0
  have z4 := s5 _ _ y4
  have zl := s5 _ _ yl
  have hRZ := hRY.mono s5
  unfold reqC at z4
  simp -implicitDefEqProofs [pq, hv5.agg, q_law24_works_7, z0, z4, hT.agg, hT.good, hT.comps, hT.st, hT.shp, hT.size, hL.agg, hL.good, hL.comps, hL.st, hL.shp, hL.size, -List.reduceReplicate]
  refine (w_ref24_Same rW_ok rW_ok (by decide)).call (.cons (vw_req (r := rW) (.refl _) (vw_row (t := 23) zl rfl)) rfl (.cons hRZ.vw rfl .nil)) rfl ?_
  simp -implicitDefEqProofs [z0, z4, hT.agg, hT.good, hT.comps, hT.st, hT.shp, hT.size, hL.agg, hL.good, hL.comps, hL.st, hL.shp, hL.size, -List.reduceReplicate]
  refine (w_parcel_Same rW_ok rW_ok (by decide)).call (.cons (vw_req (r := rW) (.refl _) (vw_row (t := 23) zl rfl)) rfl (.cons hRZ.vw rfl .nil)) rfl ?_
  simp -implicitDefEqProofs [z0, z4, abuild, -List.reduceReplicate]
  refine (w_parcel_Same rW_ok zR_ok (by decide)).call (.cons (vw_req (r := rW) (.refl _) (vw_row (t := 23) zl rfl)) rfl (.cons zQ_vw rfl .nil)) rfl ?_
  simp -implicitDefEqProofs [rW, zR, outOf, -List.reduceReplicate]
end
end Go.Proofs.Ytfdckjliinpjiaa
