/- The walks of the answers' laws. -/
import Derived.Test.YtjbiekcldkjgjaaQe
namespace Go.Proofs.Ytjbiekcldkjgjaa
open Go AVL
attribute [-simp] AV.isAgg aappI aapp alen abuild good comps shp
set_option linter.unusedVariables false
set_option linter.unusedSimpArgs false
set_option maxRecDepth 8000

def ad (k : Nat) : List Nat := k :: List.replicate 31 0
theorem ad_Adr {k : Nat} (h : k < 256) : Adr (ad k) := ⟨fun x hx => by
  rcases List.mem_cons.1 hx with rfl | hx
  · exact h
  · rw [List.eq_of_mem_replicate hx]; decide, by simp [ad]⟩
theorem build_ad (env : AEnv) (A : Heap) (K : AV → Heap → Prop) (k : Nat) : abuild (.ia .u8 32) [.iarr .u8 32 (List.replicate 32 0)] [(0, (1, (.v (.int .u8 (k : Int)))))] env A K = K (adrV (ad k)) A := by
  kernel_rfl
theorem build_ad1 (env : AEnv) (A : Heap) (K : AV → Heap → Prop) : abuild (.ia .u8 32) [.iarr .u8 32 (List.replicate 32 0)] [(0, (1, (.v (.int .u8 1))))] env A K = K (adrV (ad 1)) A := build_ad env A K 1
theorem build_ad2 (env : AEnv) (A : Heap) (K : AV → Heap → Prop) : abuild (.ia .u8 32) [.iarr .u8 32 (List.replicate 32 0)] [(0, (1, (.v (.int .u8 2))))] env A K = K (adrV (ad 2)) A := build_ad env A K 2
/-- An answer's slices, seen. -/
theorem vw_rp {r : Rp} {d l : AV} {A : Heap} (hd : Vw A d (il r.data)) (hl : Vw A l (.dsl 32 (r.list.map adrV))) : Vw A (rpW r d l) (rpV r) :=
  .agg (.cons (.refl _) (.cons (.refl _) (.cons hd (.cons hl (.cons (.refl _) (.cons (.refl _) .nil))))))
theorem encD0 {r : Rp} (h : ck r = 0) : encD r = enc r := by rw [encD, if_pos h]
theorem _root_.AVL.SlS.alone {e : TypeId} {k : IntKind} {l : List Int} {C : Heap} {g n : Nat} (hn : l.length = n) (h : C g = some (.irow e k l)) : SlS e k (.own g 0 n) l (C.del g) C :=
  ⟨fun x c hx => by rw [del_app] at hx; split at hx; cases hx; exact hx, .inr ⟨g, by rw [hn], by simp [del_app], h⟩⟩
theorem _root_.AVL.SlS.via {e : TypeId} {k : IntKind} {v : AV} {l : List Int} {A B C : Heap} {g : Nat} {c : Cont} (h : SlS e k v l A B) (hA : A g = some c) (hs : ∀ x c, x ≠ g → B x = some c → C x = some c) : SlS e k v l H0 C :=
  ⟨H0_sub _, h.own.imp id fun ⟨x, h1, h2, h3⟩ => ⟨x, h1, rfl, hs x _ (by rintro rfl; rw [h2] at hA; cases hA) h3⟩⟩
theorem _root_.AVL.SlR.via {e : TypeId} {sz : Nat} {v : AV} {l : List AV} {A B C : Heap} {g : Nat} {c : Cont} (h : SlR e sz v l A B) (hA : A g = some c) (hs : ∀ x c, x ≠ g → B x = some c → C x = some c) : SlR e sz v l H0 C :=
  ⟨H0_sub _, h.own.imp id fun ⟨x, h1, h2, h3⟩ => ⟨x, h1, rfl, hs x _ (by rintro rfl; rw [h2] at hA; cases hA) h3⟩⟩
theorem encD_bytes {r : Rp} (hr : r.ok) : Bytes (encD r) := by
  unfold encD; split
  · exact enc_bytes hr
  · intro x hx; simp at hx
theorem encS_bytes {r : Rp} (hr : r.ok) : Bytes (encS r) := by
  have := ck_code r
  unfold encS; split
  · exact encD_bytes hr
  · exact encD_bytes (r0_ok (by omega))
def rW : Rp := ⟨11, ad 1, [97, 98, 99], [ad 2], 5, true⟩
theorem rW_ok : rW.ok := ⟨by simp [rW], by simp [rW], ad_Adr (by decide), by unfold Bytes; decide, fun a ha => by
  have : a = ad 2 := by simpa [rW] using ha
  subst this; exact ad_Adr (by decide), by decide, by decide⟩
theorem rW_ck : ck rW = 0 := by decide
theorem rW_len : (enc rW).length = 79 := by decide +kernel
theorem rW_no : ¬ dOK (enc rW ++ [1]) := by decide +kernel
theorem w_law25_works : Gives Try.prog F_law25_works [] (.bool true) := by
  refine v_law25_works (by simp) ?_
  simp -implicitDefEqProofs [a_law25_works, q_law25_works_0, q_law25_works_1, build_ad1, build_ad2, adrV, -List.reduceReplicate]
  intro g0 gl
  simp -implicitDefEqProofs [abuild, -List.reduceReplicate]
  intro g1 n1 n2
  simp -implicitDefEqProofs [q_law25_works_2, -List.reduceReplicate]
  refine (w_reply_Put rW_ok).call (.cons (vw_rp (r := rW) (.refl _) (vw_row (t := 39) (by simp [n1, n2]; rfl) rfl)) rfl .nil) (two_noF _) fun v B hB => ?_
  rw [encD0 rW_ck] at hB
  rw [rW_ck]
  have b1 := hB.sub g1 _ set_eq'
  have bl := hB.sub gl _ (show _ = some (Cont.row 39 32 [adrV (ad 2)]) by simp [n1, n2]; rfl)
  simp -implicitDefEqProofs [two, hB.agg, q_law25_works_3, -List.reduceReplicate]
  refine reply_Get_call (enc_bytes rW_ok) (by rw [rW_len]; decide) hB.vw hB.agg (fun h => absurd (dec_enc rW_ok rW_ck).1 h) fun _ d1 l1 B1 hd1 hl1 => ?_
  rw [(dec_enc rW_ok rW_ck).2] at hd1 hl1 ⊢
  simp -implicitDefEqProofs [rpW, adrV, hd1.scl.st, hd1.scl.size, hl1.scl.st, hl1.scl.size, -List.reduceReplicate]
  intro g4 h4
  -- what stands where
  obtain ⟨c4, hc4⟩ : ∃ c : Cont, c = .var 47 [.int .i64 rW.code, .iarr .u8 32 (ints rW.addr), d1, l1, .int .i64 rW.n, .bool rW.done] := ⟨_, rfl⟩
  have b1' := hd1.sub _ _ b1
  have bl' := hd1.sub _ _ bl
  rcases hB.own with ⟨rfl, hn⟩ | ⟨gv, rfl, hgv, hBv⟩
  · have := congrArg List.length hn
    rw [ints_length, rW_len] at this; cases this
  rw [ints_length, rW_len] at *
  have bv' := hd1.sub _ _ hBv
  have m1 : g1 ≠ gv := fresh_ne (set_eq') hgv
  have ml : gl ≠ gv := by rintro rfl; simp [n1, n2] at hgv
  have m4 : gv ≠ g4 := fresh_ne bv' h4
  simp -implicitDefEqProofs [q_law25_works_4, -List.reduceReplicate]
  intro g5 n3 n4 h5
  refine (SlS.alone (e := T_uint8) (l := ints (enc rW)) (by rw [ints_length, rW_len]) ?_).appS (ys := [1]) (Sub_refl _) (fun Q hQ => by simpa [srcI] using hQ) (by simp [rW_len]) fun v2 C2 hv2 hag2 => ?_
  · have e4 : gv ≠ g5 := fresh_ne bv' h5
    simp [m4, e4, bv']
  have hs2 : ∀ x c, x ≠ gv → B1 x = some c → C2 x = some c := fun x c hx hc => by
    refine hv2.sub x c ?_
    rw [del_app, if_neg hx, Heap.set_ne _ _ (fresh_ne hc h5), Heap.set_ne _ _ (fresh_ne hc h4)]; exact hc
  have k4 := hv2.sub g4 _ (show _ = some (Cont.var 47 [.int .i64 rW.code, .iarr .u8 32 (ints rW.addr), d1, l1, .int .i64 rW.n, .bool rW.done]) by
    rw [del_app, if_neg (Ne.symm m4), Heap.set_ne _ _ (fun e => n3 e.symm), set_eq'])
  have k1 := hs2 g1 _ m1 b1'
  have kl := hs2 gl _ ml bl'
  have kd1 : SlS T_uint8 .u8 d1 (ints rW.data) H0 C2 := hd1.via hBv hs2
  have kl1 : SlR 39 32 l1 (rW.list.map adrV) H0 C2 := hl1.via hBv hs2
  have hv2' : SlS T_uint8 .u8 v2 (ints (enc rW ++ [1])) H0 C2 := by simpa [ints] using hv2.base (H0_sub _)
  simp -implicitDefEqProofs [hag2, -List.reduceReplicate]
  refine reply_Get_call (b := enc rW ++ [1]) (bytes_append (enc_bytes rW_ok) (by unfold Bytes; decide)) (by simp [rW_len]) hv2'.vw hag2 (fun _ => ?_) fun h => absurd h rW_no
  simp -implicitDefEqProofs [zV, q_law25_works_5, -List.reduceReplicate]
  intro g6 h6
  refine (w_reply_Short (c := 6) (by omega)).call (.cons (.refl _) rfl .nil) fun v5 B5 h5' => ?_
  have s5 := sub_tr (sub_none h6) h5'.sub
  have e5 : encS (r0 6) = enc (r0 6) := by decide +kernel
  have o6 := r0_ok (c := 6) (by omega)
  have z6 := ck_r0 (c := 6) (by omega)
  rw [e5] at h5'
  simp -implicitDefEqProofs [h5'.agg, -List.reduceReplicate]
  refine reply_Get_call (b := enc (r0 6)) (enc_bytes o6) (by decide +kernel) h5'.vw h5'.agg (fun h => absurd (dec_enc o6 z6).1 h) fun _ d6 l6 B6 hd6 hl6 => ?_
  rw [(dec_enc o6 z6).2] at hd6 hl6 ⊢
  simp -implicitDefEqProofs [rpW, adrV, hd6.scl.st, hd6.scl.size, hl6.scl.st, hl6.scl.size, q_law25_works_6, -List.reduceReplicate]
  intro g7 h7
  refine (w_reply_Short (c := 99) (by omega)).call (.cons (.refl _) rfl .nil) fun v8 B8 h8' => ?_
  have s8 := sub_tr (sub_none h7) h8'.sub
  have e8 : encS (r0 99) = enc (r0 2) := by decide +kernel
  have o2 := r0_ok (c := 2) (by omega)
  have z2 := ck_r0 (c := 2) (by omega)
  rw [e8] at h8'
  simp -implicitDefEqProofs [h8'.agg, -List.reduceReplicate]
  refine reply_Get_call (b := enc (r0 2)) (enc_bytes o2) (by decide +kernel) h8'.vw h8'.agg (fun h => absurd (dec_enc o2 z2).1 h) fun _ d9 l9 B9 hd9 hl9 => ?_
  rw [(dec_enc o2 z2).2] at hd9 hl9 ⊢
  simp -implicitDefEqProofs [rpW, adrV, hd9.scl.st, hd9.scl.size, hl9.scl.st, hl9.scl.size, -List.reduceReplicate]
  intro g10 h10
  have sAll : C2.Sub B9 := sub_tr s5 (sub_tr hd6.sub (sub_tr s8 hd9.sub))
  obtain ⟨H, hH⟩ : ∃ H : Heap, H = B9.set g10 (.var 47 [.int .i64 (r0 2).code, .iarr .u8 32 (ints (r0 2).addr), d9, l9, .int .i64 (r0 2).n, .bool (r0 2).done]) := ⟨_, rfl⟩
  have sEnd : C2.Sub H := by rw [hH]; exact sub_tr sAll (sub_none h10)
  have f1 := sEnd _ _ k1
  have f4 := sEnd _ _ k4
  have fl := sEnd _ _ kl
  have fd1 := kd1.mono sEnd
  have fl1 := kl1.mono sEnd
  have f7 : H g7 = some (.var 47 [.int .i64 (r0 6).code, .iarr .u8 32 (ints (r0 6).addr), d6, l6, .int .i64 (r0 6).n, .bool (r0 6).done]) := by
    rw [hH]; exact sub_tr h8'.sub (sub_tr hd9.sub (sub_none h10)) _ _ set_eq'
  have f10 : H g10 = some (.var 47 [.int .i64 (r0 2).code, .iarr .u8 32 (ints (r0 2).addr), d9, l9, .int .i64 (r0 2).n, .bool (r0 2).done]) := by rw [hH]; exact set_eq'
  rw [← hH]
  have q6 : (r0 6).code = 6 := rfl
  have q2 : (r0 2).code = 2 := rfl
  simp -implicitDefEqProofs [q_law25_works_7, f1, f4, fd1.scl.size, fl1.scl.size, -List.reduceReplicate]
  refine (w_ref21_Same rW_ok rW_ok).call (.cons (vw_rp (r := rW) (.refl _) (vw_row fl rfl)) rfl (.cons (vw_rp fd1.vw fl1.vw) rfl .nil)) rfl ?_
  have hself : sameR rW rW = true := sameR_iff.2 rfl
  simp -implicitDefEqProofs [hself, f7, f10, q6, q2, abuild, hd6.scl.size, hl6.scl.size, hd9.scl.size, hl9.scl.size, -List.reduceReplicate]
  refine (w_reply_Check ⟨0, List.replicate 32 0, [], [], -1, false⟩).call (.cons (vw_rp (r := ⟨0, List.replicate 32 0, [], [], -1, false⟩) (.nil .u8) (.nilD 32)) rfl .nil) rfl ?_
  have hc2 : ck ⟨0, List.replicate 32 0, [], [], -1, false⟩ = 2 := rfl
  simp -implicitDefEqProofs [hc2, -List.reduceReplicate]
theorem w_ReplyPuts {r : Rp} (h : (r.data.length ≤ 17000 ∧ r.list.length ≤ 300) → r.ok) {c : Int} (hc : -9223372036854775808 ≤ c ∧ c < 9223372036854775808) : Gives Try.prog F_law25_ReplyPuts [rpV r, .int .i64 c] (.bool true) := by
  refine v_law25_ReplyPuts (by simp) ?_
  unfold rpV rpW
  simp -implicitDefEqProofs [a_law25_ReplyPuts, q_law25_ReplyPuts_0, q_law25_ReplyPuts_1, adrV, il]
  intro g0
  by_cases hl : r.data.length ≤ 17000 ∧ r.list.length ≤ 300
  case neg =>
    refine (w_law25_light_no (r := r) (by omega)).call (.cons (.refl _) rfl .nil) rfl ?_
    simp -implicitDefEqProofs [q_law25_ReplyPuts_2]
    refine w_law25_works.call .nil rfl ?_
    simp -implicitDefEqProofs
  have hr := h hl
  refine (w_law25_light hr).call (.cons (.refl _) rfl .nil) rfl ?_
  simp -implicitDefEqProofs [q_law25_ReplyPuts_3]
  refine (w_reply_Put hr).call (.cons (.refl _) rfl .nil) (two_noF _) fun v B hB => ?_
  have b0 := hB.sub g0 _ set_eq'
  simp -implicitDefEqProofs [two, hB.agg, q_law25_ReplyPuts_4, b0]
  refine (w_ref25_Put hr).call (.cons (.refl _) rfl .nil) (two_noF _) fun u C hC => ?_
  have c0 := hC.sub g0 _ b0
  have hB' := hB.mono hC.sub
  simp -implicitDefEqProofs [two, hB.agg, hC.agg, q_law25_ReplyPuts_5, c0]
  have hbe := encD_bytes hr
  refine (w_ref01_Same (encD r) (encD r) hbe hbe).call (.cons hB'.vw (by rw [hB.agg]; rfl) (.cons hC.vw (by rw [hC.agg]; rfl) .nil)) rfl ?_
  simp -implicitDefEqProofs [c0]
  refine (w_reply_Check r).call (.cons (.refl _) rfl .nil) rfl ?_
  simp -implicitDefEqProofs [Sub_refl, c0]
  refine (w_ref25_Check r).call (.cons (.refl _) rfl .nil) rfl ?_
  simp -implicitDefEqProofs [abuild, -List.reduceReplicate]
  refine (w_reply_Short hc).call (.cons (.refl _) rfl .nil) fun v1 B1 h1 => ?_
  simp -implicitDefEqProofs
  refine (w_ref25_Bytes (r0_ok hc)).call (vw_r0 c) fun v2 B2 h2 => ?_
  have hbs := encS_bytes (r0_ok hc)
  simp -implicitDefEqProofs [h1.agg, h2.agg]
  refine (w_ref01_Same (encS (r0 c)) (encS (r0 c)) hbs hbs).call (.cons (h1.mono h2.sub).vw (by rw [h1.agg]; rfl) (.cons h2.vw (by rw [h2.agg]; rfl) .nil)) rfl ?_
  simp -implicitDefEqProofs
  refine w_law25_works.call .nil rfl ?_
  simp -implicitDefEqProofs
theorem w_ReplyBack {r s : Rp} (h : (r.data.length ≤ 17000 ∧ r.list.length ≤ 300) → r.ok) (h' : (s.data.length ≤ 17000 ∧ s.list.length ≤ 300) → s.ok) : Gives Try.prog F_law25_ReplyBack [rpV r, rpV s] (.bool true) := by
  refine v_law25_ReplyBack (by simp) ?_
  unfold rpV rpW
  simp -implicitDefEqProofs [a_law25_ReplyBack, q_law25_ReplyBack_0, q_law25_ReplyBack_1, adrV, il]
  intro g0 g1 n1 n2
  simp -implicitDefEqProofs [n1, n2]
  by_cases hl : r.data.length ≤ 17000 ∧ r.list.length ≤ 300
  case neg =>
    refine (w_law25_light_no (r := r) (by omega)).call (.cons (.refl _) rfl .nil) rfl ?_
    simp -implicitDefEqProofs [q_law25_ReplyBack_2]
    refine w_law25_works.call .nil rfl ?_
    simp -implicitDefEqProofs
  have hr := h hl
  refine (w_law25_light hr).call (.cons (.refl _) rfl .nil) rfl ?_
  simp -implicitDefEqProofs [n1, n2]
  by_cases hl2 : s.data.length ≤ 17000 ∧ s.list.length ≤ 300
  case neg =>
    refine (w_law25_light_no (r := s) (by omega)).call (.cons (.refl _) rfl .nil) rfl ?_
    simp -implicitDefEqProofs [q_law25_ReplyBack_2]
    refine w_law25_works.call .nil rfl ?_
    simp -implicitDefEqProofs
  have hs := h' hl2
  refine (w_law25_light hs).call (.cons (.refl _) rfl .nil) rfl ?_
  simp -implicitDefEqProofs [q_law25_ReplyBack_3, n1, n2]
  refine (w_reply_Put hr).call (.cons (.refl _) rfl .nil) (two_noF _) fun v B hB => ?_
  by_cases hc : ck r = 0
  case neg =>
    simp -implicitDefEqProofs [two, hB.agg, q_law25_ReplyBack_4, q_law25_ReplyBack_5, hc]
    refine w_law25_works.call .nil rfl ?_
    simp -implicitDefEqProofs
  rw [encD0 hc] at hB
  rw [hc]
  have b0 := hB.sub g0 (.var 47 [.int .i64 r.code, .iarr .u8 32 (ints r.addr), .isl .u8 (ints r.data), .dsl 32 (r.list.map adrV), .int .i64 r.n, .bool r.done]) (by simp [n1, n2])
  have b1 := hB.sub g1 _ set_eq'
  simp -implicitDefEqProofs [two, hB.agg, q_law25_ReplyBack_4, q_law25_ReplyBack_6]
  have hel : (enc r).length ≤ 30000 := by
    have h1 := enc_length hr
    have h2 := flat_length hr.list
    have h3 := ck0 hc
    omega
  refine reply_Get_call (enc_bytes hr) hel hB.vw hB.agg (fun h => absurd (dec_enc hr hc).1 h) fun _ d l C hd hl => ?_
  rw [(dec_enc hr hc).2] at hd hl ⊢
  simp -implicitDefEqProofs [rpW, adrV, hd.scl.st, hd.scl.size, hl.scl.st, hl.scl.size, -List.reduceReplicate]
  intro g7 h7
  have n7 : g0 ≠ g7 := fresh_ne (hd.sub _ _ b0) h7
  have m7 : g1 ≠ g7 := fresh_ne (hd.sub _ _ b1) h7
  obtain ⟨H, hH⟩ : ∃ H : Heap, H = C.set g7 (.var 47 [.int .i64 r.code, .iarr .u8 32 (ints r.addr), d, l, .int .i64 r.n, .bool r.done]) := ⟨_, rfl⟩
  have sH : C.Sub H := by rw [hH]; exact sub_none h7
  have f0 := sub_tr hd.sub sH _ _ b0
  have f1 := sub_tr hd.sub sH _ _ b1
  have f7 : H g7 = some (.var 47 [.int .i64 r.code, .iarr .u8 32 (ints r.addr), d, l, .int .i64 r.n, .bool r.done]) := by rw [hH]; exact set_eq'
  have fd := hd.mono sH
  have fl := hl.mono sH
  have fB := hB.mono (sub_tr hd.sub sH)
  rw [← hH]
  simp -implicitDefEqProofs [q_law25_ReplyBack_7, f0, f7, fd.scl.size, fl.scl.size]
  refine (w_ref21_Same hr hr).call (.cons (.refl _) rfl (.cons (vw_rp fd.vw fl.vw) rfl .nil)) rfl ?_
  have hself : sameR r r = true := sameR_iff.2 rfl
  simp -implicitDefEqProofs [hself, q_law25_ReplyBack_9, f1]
  refine (w_reply_Put hs).call (.cons (.refl _) rfl .nil) (two_noF _) fun u E hE => ?_
  have e0 := hE.sub _ _ f0
  have e1 := hE.sub _ _ f1
  have eB := fB.mono hE.sub
  by_cases hcs : ck s = 0
  case neg =>
    simp -implicitDefEqProofs [two, hE.agg, hcs, q_law25_ReplyBack_10]
    refine w_law25_works.call .nil rfl ?_
    simp -implicitDefEqProofs
  rw [encD0 hcs] at hE
  rw [hcs]
  simp -implicitDefEqProofs [two, hB.agg, hE.agg, q_law25_ReplyBack_10, e0, e1]
  refine (w_ref01_Same (enc r) (enc s) (enc_bytes hr) (enc_bytes hs)).call (.cons eB.vw (by rw [hB.agg]; rfl) (.cons hE.vw (by rw [hE.agg]; rfl) .nil)) rfl ?_
  simp -implicitDefEqProofs [Sub_refl, e0, e1]
  refine (w_ref21_Same hr hs).call (.cons (.refl _) rfl (.cons (.refl _) rfl .nil)) rfl ?_
  have heq : decide (enc r = enc s) = sameR r s := by
    rw [Bool.eq_iff_iff, sameR_iff, decide_eq_true_eq]
    exact ⟨fun e => enc_inj hr hs hc hcs e, fun e => by rw [e]⟩
  simp -implicitDefEqProofs [heq]
  refine w_law25_works.call .nil rfl ?_
  simp -implicitDefEqProofs
def z0 : Rp := ⟨0, List.replicate 32 0, [], [], 0, false⟩
theorem z0_ok : z0.ok := r0_ok (c := 0) (by omega)
theorem w_ReplyOne {b : List Nat} (hb : Bytes b) : Gives Try.prog F_law25_ReplyOne [il b] (.bool true) := by
  refine v_law25_ReplyOne (by simp) ?_
  by_cases hl : 4000 < b.length
  · have hl' : (4000 : Int) < b.length := by omega
    simp -implicitDefEqProofs [a_law25_ReplyOne, q_law25_ReplyOne_0, q_law25_ReplyOne_1, q_law25_ReplyOne_2, il, hl']
    refine w_law25_works.call .nil rfl ?_
    simp -implicitDefEqProofs
  have hl' : ¬ (4000 : Int) < b.length := by omega
  simp -implicitDefEqProofs [a_law25_ReplyOne, q_law25_ReplyOne_0, q_law25_ReplyOne_1, q_law25_ReplyOne_3, il, hl', -List.reduceReplicate]
  refine reply_Get_call hb (by omega) (.refl _) rfl (fun hno => ?_) fun hyes d l C hd hll => ?_
  · simp -implicitDefEqProofs [zV, -List.reduceReplicate]
    intro g
    simp -implicitDefEqProofs [q_law25_ReplyOne_4, q_law25_ReplyOne_5, abuild, -List.reduceReplicate]
    refine (w_ref21_Same z0_ok z0_ok).call (.cons (vw_rp (r := z0) (.nil .u8) (.nilD 32)) rfl (.cons (vw_rp (r := z0) (.nil .u8) (.nilD 32)) rfl .nil)) rfl ?_
    have hself : sameR z0 z0 = true := sameR_iff.2 rfl
    simp -implicitDefEqProofs [hself]
    refine w_law25_works.call .nil rfl ?_
    simp -implicitDefEqProofs
  · have hok := dRp_ok hb hyes.1 hyes.2.2.1 (by omega)
    simp -implicitDefEqProofs [rpW, adrV, hd.scl.st, hd.scl.size, hll.scl.st, hll.scl.size, -List.reduceReplicate]
    intro g hg
    have fd := hd.mono (sub_none (c := .var 47 [.int .i64 (dRp b).code, .iarr .u8 32 (ints (dRp b).addr), d, l, .int .i64 (dRp b).n, .bool (dRp b).done]) hg)
    have fl := hll.mono (sub_none (c := .var 47 [.int .i64 (dRp b).code, .iarr .u8 32 (ints (dRp b).addr), d, l, .int .i64 (dRp b).n, .bool (dRp b).done]) hg)
    simp -implicitDefEqProofs [q_law25_ReplyOne_4, q_law25_ReplyOne_6, hd.scl.size, hll.scl.size]
    refine (w_reply_Put hok).call (.cons (vw_rp fd.vw fl.vw) rfl .nil) (two_noF _) fun v B hB => ?_
    rw [hyes.2.2.2] at *
    rw [encD0 hyes.2.2.2, enc_dec hb hyes] at hB
    simp -implicitDefEqProofs [two, hB.agg, q_law25_ReplyOne_7]
    refine (w_ref01_Same b b hb hb).call (.cons (.refl _) rfl (.cons hB.vw (by rw [hB.agg]; rfl) .nil)) rfl ?_
    simp -implicitDefEqProofs
    refine w_law25_works.call .nil rfl ?_
    simp -implicitDefEqProofs
end Go.Proofs.Ytjbiekcldkjgjaa
