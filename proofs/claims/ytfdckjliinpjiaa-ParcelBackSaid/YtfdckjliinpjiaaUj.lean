/- The laws of the parcel. -/
import Derived.Test.YtfdckjliinpjiaaUi
namespace Go.Proofs.Ytfdckjliinpjiaa
open Go AVL
attribute [-simp] AV.isAgg aappI aapp alen shp good comps
set_option linter.unusedVariables false
set_option linter.unusedSimpArgs false
set_option maxRecDepth 20000

section
variable {A B C : Heap} {K Kp : AV → Heap → Prop}
theorem light_len {r : Rq} (h : lightR r = true) : r.list.length < 2 ^ 62 := by
  simp [lightR] at h; omega
theorem encE_bytes {r : Rq} (h : r.Wf) : ∃ l, Bytes l ∧ (if errR r = 0 then ints (enc r) else []) = ints l ∧ (errR r = 0 → l = enc r) := by
  by_cases he : errR r = 0
  · exact ⟨enc r, enc_bytes h he, by rw [if_pos he], fun _ => rfl⟩
  · refine ⟨[], ?_, by rw [if_neg he]; rfl, fun h => absurd h he⟩
    intro x hx; cases hx
theorem w_ParcelPuts {r s : Rq} (hr : r.Wf) (hs : s.Wf) : Gives Try.prog F_law24_ParcelPuts [reqV r, reqV s] (.bool true) := by
  refine v_law24_ParcelPuts (by simp) ?_
  unfold reqV reqC
  simp -implicitDefEqProofs [a_law24_ParcelPuts, q_law24_ParcelPuts_0, q_law24_ParcelPuts_1]
  intro g0 g1 n1 n2
  have wk : ∀ {A : Heap} {K Kp : AV → Heap → Prop}, K (.bool true) A → SimX Try.prog F_law24_works [] A (outK K Kp) := fun h => w_law24_works.call .nil rfl h
  simp -implicitDefEqProofs [n1, n2]
  refine (w_law24_Light (r := r)).call (.cons (.refl _) rfl .nil) rfl ?_
  cases hlr : lightR r
  · simp -implicitDefEqProofs [n1, n2, q_law24_ParcelPuts_2]
    refine wk ?_
    simp -implicitDefEqProofs [outOf]
  simp -implicitDefEqProofs [n1, n2]
  refine (w_law24_Light (r := s)).call (.cons (.refl _) rfl .nil) rfl ?_
  cases hls : lightR s
  · simp -implicitDefEqProofs [n1, n2, q_law24_ParcelPuts_2]
    refine wk ?_
    simp -implicitDefEqProofs [outOf]
  simp -implicitDefEqProofs [n1, n2, q_law24_ParcelPuts_3]
  refine (w_parcel_Put hr).call (.cons (.refl _) rfl .nil) (pq_noF _) fun v B hB => ?_
  obtain ⟨L, hLb, hLe, hL0⟩ := encE_bytes hr
  rw [hLe] at hB
  have b0 := hB.sub g0 (.var 26 [.int .i64 r.op, .str (sN r.name), .str (sN r.actor), .str (sN r.note), .int .i64 r.n, .bool r.ev, .bool r.pr, .isl .u8 (ints r.text), .iarr .u8 32 (ints r.addr), .dsl 32 (adrs r.list)]) (by simp [n1, n2])
  have b1 := hB.sub g1 (.var 26 [.int .i64 s.op, .str (sN s.name), .str (sN s.actor), .str (sN s.note), .int .i64 s.n, .bool s.ev, .bool s.pr, .isl .u8 (ints s.text), .iarr .u8 32 (ints s.addr), .dsl 32 (adrs s.list)]) set_eq'
  simp -implicitDefEqProofs [pq, hB.agg, q_law24_ParcelPuts_4, b0]
  refine (w_ref24_Put hr).call (.cons (.refl _) rfl .nil) (pq_noF _) fun u C hC => ?_
  rw [hLe] at hC
  have c0 := hC.sub g0 _ b0
  have c1 := hC.sub g1 _ b1
  have hB' := hB.mono hC.sub
  simp -implicitDefEqProofs [pq, hB.agg, hC.agg, q_law24_ParcelPuts_5, c0, c1]
  refine (w_ref01_Same L L hLb hLb).call (.cons hB'.vw (by rw [hB.agg]; rfl) (.cons hC.vw (by rw [hC.agg]; rfl) .nil)) rfl ?_
  simp -implicitDefEqProofs [c0, c1]
  refine (w_parcel_Same hr hs (light_len hlr)).call (.cons (.refl _) rfl (.cons (.refl _) rfl .nil)) rfl ?_
  simp -implicitDefEqProofs [Sub_refl, c0, c1]
  refine (w_ref24_Same hr hs (light_len hlr)).call (.cons (.refl _) rfl (.cons (.refl _) rfl .nil)) rfl ?_
  simp -implicitDefEqProofs
  refine wk ?_
  simp -implicitDefEqProofs [outOf]
theorem w_ParcelBack {r s : Rq} (hr : r.Wf) (hs : s.Wf) : Gives Try.prog F_law24_ParcelBack [reqV r, reqV s] (.bool true) := by
  refine v_law24_ParcelBack (by simp) ?_
  unfold reqV reqC
  simp -implicitDefEqProofs [a_law24_ParcelBack, q_law24_ParcelBack_0, q_law24_ParcelBack_1]
  intro g0 g1 n1 n2
  have wk : ∀ {A : Heap} {K Kp : AV → Heap → Prop}, K (.bool true) A → SimX Try.prog F_law24_works [] A (outK K Kp) := fun h => w_law24_works.call .nil rfl h
  simp -implicitDefEqProofs [n1, n2]
  refine (w_law24_Light (r := r)).call (.cons (.refl _) rfl .nil) rfl ?_
  cases hlr : lightR r
  · simp -implicitDefEqProofs [n1, n2, q_law24_ParcelBack_2]
    refine wk ?_
    simp -implicitDefEqProofs [outOf]
  simp -implicitDefEqProofs [n1, n2]
  refine (w_law24_Light (r := s)).call (.cons (.refl _) rfl .nil) rfl ?_
  cases hls : lightR s
  · simp -implicitDefEqProofs [n1, n2, q_law24_ParcelBack_2]
    refine wk ?_
    simp -implicitDefEqProofs [outOf]
  simp -implicitDefEqProofs [n1, n2, q_law24_ParcelBack_3]
  refine (w_parcel_Put hr).call (.cons (.refl _) rfl .nil) (pq_noF _) fun v B hB => ?_
  obtain ⟨L, hLb, hLe, hL0⟩ := encE_bytes hr
  rw [hLe] at hB
  have b0 := hB.sub g0 (.var 26 [.int .i64 r.op, .str (sN r.name), .str (sN r.actor), .str (sN r.note), .int .i64 r.n, .bool r.ev, .bool r.pr, .isl .u8 (ints r.text), .iarr .u8 32 (ints r.addr), .dsl 32 (adrs r.list)]) (by simp [n1, n2])
  have b1 := hB.sub g1 (.var 26 [.int .i64 s.op, .str (sN s.name), .str (sN s.actor), .str (sN s.note), .int .i64 s.n, .bool s.ev, .bool s.pr, .isl .u8 (ints s.text), .iarr .u8 32 (ints s.addr), .dsl 32 (adrs s.list)]) set_eq'
  simp -implicitDefEqProofs [pq, hB.agg, q_law24_ParcelBack_4, b0, b1]
  refine (w_parcel_Put hs).call (.cons (.refl _) rfl .nil) (pq_noF _) fun u C hC => ?_
  obtain ⟨M, hMb, hMe, hM0⟩ := encE_bytes hs
  rw [hMe] at hC
  have c0 := hC.sub g0 _ b0
  have c1 := hC.sub g1 _ b1
  have hB' := hB.mono hC.sub
  by_cases he : errR r = 0
  case neg =>
    simp -implicitDefEqProofs [pq, hC.agg, hB.agg, q_law24_ParcelBack_5, q_law24_ParcelBack_6, he]
    refine wk ?_
    simp -implicitDefEqProofs [outOf]
  have hL := hL0 he
  subst hL
  rw [he]
  simp -implicitDefEqProofs [pq, hC.agg, hB.agg, q_law24_ParcelBack_5, q_law24_ParcelBack_7, -List.reduceReplicate]
  refine parcel_Get_call hLb hB'.vw hB.agg (fun h => by rw [dec_enc hr he] at h; cases h) fun r1 hr1 tv lv D hR => ?_
  rw [dec_enc hr he] at hr1
  injection hr1 with hr1
  subst hr1
  have hT := hR.text.scl
  have hL := hR.list.scl
  unfold reqC
  simp -implicitDefEqProofs [hT.agg, hT.good, hT.comps, hT.st, hT.shp, hT.size, hL.agg, hL.good, hL.comps, hL.st, hL.shp, hL.size, -List.reduceReplicate]
  intro g9 h9
  obtain ⟨X, hX⟩ : ∃ X, D.set g9 (.var 26 (reqC r tv lv)) = X := ⟨_, rfl⟩
  have sX : D.Sub X := by rw [← hX]; exact sub_none h9
  have x0 := sX _ _ (hR.sub _ _ c0)
  have x1 := sX _ _ (hR.sub _ _ c1)
  have x9 : X g9 = some (.var 26 (reqC r tv lv)) := by rw [← hX]; exact set_eq'
  have hBX := hB'.mono (sub_tr hR.sub sX)
  have hCX := hC.mono (sub_tr hR.sub sX)
  have hRX := hR.mono sX
  unfold reqC at hX x9
  rw [hX]
  clear hX
  simp -implicitDefEqProofs [q_law24_ParcelBack_8, x0, x9, hT.agg, hT.good, hT.comps, hT.st, hT.shp, hT.size, hL.agg, hL.good, hL.comps, hL.st, hL.shp, hL.size, -List.reduceReplicate]
  refine (w_ref24_Same hr hr (light_len hlr)).call (.cons (.refl _) rfl (.cons hRX.vw rfl .nil)) rfl ?_
  by_cases hes : errR s = 0
  case neg =>
    simp -implicitDefEqProofs [hes, q_law24_ParcelBack_10]
    refine wk ?_
    simp -implicitDefEqProofs [outOf]
  have hM := hM0 hes
  subst hM
  simp -implicitDefEqProofs [hes, q_law24_ParcelBack_10, hB.agg, hC.agg, x0, x1]
  refine (w_ref01_Same (enc r) (enc s) hLb hMb).call (.cons hBX.vw (by rw [hB.agg]; rfl) (.cons hCX.vw (by rw [hC.agg]; rfl) .nil)) rfl ?_
  simp -implicitDefEqProofs [Sub_refl, x0, x1]
  refine (w_ref24_Same hr hs (light_len hlr)).call (.cons (.refl _) rfl (.cons (.refl _) rfl .nil)) rfl ?_
  simp -implicitDefEqProofs [enc_inj hr hs he hes]
  refine wk ?_
  simp -implicitDefEqProofs [outOf]
theorem w_ParcelOne {b : List Nat} (hb : Bytes b) : Gives Try.prog F_law24_ParcelOne [il b] (.bool true) := by
  refine v_law24_ParcelOne (by simp) ?_
  have wk : ∀ {A : Heap} {K Kp : AV → Heap → Prop}, K (.bool true) A → SimX Try.prog F_law24_works [] A (outK K Kp) := fun h => w_law24_works.call .nil rfl h
  by_cases hl : 4000 < b.length
  · have hl' : (4000 : Int) < b.length := by omega
    simp -implicitDefEqProofs [a_law24_ParcelOne, q_law24_ParcelOne_0, q_law24_ParcelOne_1, q_law24_ParcelOne_2, il, hl']
    refine wk ?_
    simp -implicitDefEqProofs [outOf]
  have hl' : ¬ (4000 : Int) < b.length := by omega
  simp -implicitDefEqProofs [a_law24_ParcelOne, q_law24_ParcelOne_0, q_law24_ParcelOne_1, q_law24_ParcelOne_3, il, hl', -List.reduceReplicate]
  refine parcel_Get_call hb (.refl _) rfl (fun hno => ?_) fun r hr tv lv B hR => ?_
  · simp -implicitDefEqProofs [zQ, -List.reduceReplicate]
    intro g
    simp -implicitDefEqProofs [q_law24_ParcelOne_4, q_law24_ParcelOne_5, abuild, -List.reduceReplicate]
    refine (w_ref24_Same zR_ok zR_ok (by decide)).call (.cons zQ_vw rfl (.cons zQ_vw rfl .nil)) rfl ?_
    simp -implicitDefEqProofs
    refine wk ?_
    simp -implicitDefEqProofs [outOf]
  · obtain ⟨hw, hf, hbe⟩ := (dec_iff hb r).1 hr
    have hT := hR.text.scl
    have hL := hR.list.scl
    unfold reqC
    simp -implicitDefEqProofs [hT.agg, hT.good, hT.comps, hT.st, hT.shp, hT.size, hL.agg, hL.good, hL.comps, hL.st, hL.shp, hL.size, -List.reduceReplicate]
    intro g hg
    have fR := hR.mono (sub_none (c := .var 26 (reqC r tv lv)) hg)
    unfold reqC at fR
    simp -implicitDefEqProofs [q_law24_ParcelOne_4, q_law24_ParcelOne_6, hT.agg, hT.good, hT.comps, hT.st, hT.shp, hT.size, hL.agg, hL.good, hL.comps, hL.st, hL.shp, hL.size, -List.reduceReplicate]
    refine (w_parcel_Put hw).call (.cons fR.vw rfl .nil) (pq_noF _) fun v C hC => ?_
    have he : errR r = 0 := hf
    rw [if_pos he, ← hbe] at hC
    rw [he]
    simp -implicitDefEqProofs [pq, hC.agg, q_law24_ParcelOne_7]
    refine (w_ref01_Same b b hb hb).call (.cons (.refl _) rfl (.cons hC.vw (by rw [hC.agg]; rfl) .nil)) rfl ?_
    simp -implicitDefEqProofs
    refine wk ?_
    simp -implicitDefEqProofs [outOf]
end
end Go.Proofs.Ytfdckjliinpjiaa
