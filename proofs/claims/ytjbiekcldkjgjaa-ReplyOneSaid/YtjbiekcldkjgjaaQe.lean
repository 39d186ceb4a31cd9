/- The walk of reply.Get. -/
import Derived.Test.YtjbiekcldkjgjaaQd
import Derived.Test.YtjbiekcldkjgjaaQl
namespace Go.Proofs.Ytjbiekcldkjgjaa
open Go AVL
attribute [-simp] AV.isAgg aappI aapp alen
set_option linter.unusedVariables false
set_option linter.unusedSimpArgs false
set_option maxRecDepth 4000

def zV : AV := .agg [.int .i64 0, .iarr .u8 32 (List.replicate 32 0), .nilS, .nilS, .int .i64 0, .bool false]
theorem w_reply_Get_1 : Gives Try.prog F_reply_Get_1 [] (.tuple [zV, .int .i64 3]) := by
  refine v_reply_Get_1 (by simp) ?_
  simp -implicitDefEqProofs [a_reply_Get_1, q_reply_Get_1_0, q_reply_Get_1_1, zV, outOf, -List.reduceReplicate]
def GetQ (b : List Nat) (o : AOut) (B : Heap) : Prop :=
  if dOK b then ∃ d l, o = .ret (.tuple [rpW (dRp b) d l, .int .i64 0]) ∧ SlS T_uint8 .u8 d (ints (dRp b).data) H0 B ∧ SlR 39 32 l ((dRp b).list.map adrV) H0 B ∧ ∀ g c, B g = some c → c.noF = true
  else o = .ret (.tuple [zV, .int .i64 3]) ∧ B = H0
theorem reply_Get_no {b : List Nat} {R : APost} (hR : ∀ e env A, fpost a_reply_Get.res (GetQ b) e env A → R e env A) (hn : ¬ dOK b) {env : AEnv} {A : Heap} {g2 : Nat} (h2 : A g2 = some (.var 47 (comps zV))) (e2 : env 2 = .ptr g2 0) (e3 : env 3 = .int .i64 3) :
    R .ret env A := by
  refine hR _ _ _ ?_
  simp -implicitDefEqProofs [fpost, a_reply_Get, e2, e3, h2, zV, outOf, GetQ, hn]
theorem noFs_adr : ∀ l : List (List Nat), AV.noFs (l.map adrV) = true
  | [] => rfl
  | a :: l => by simp only [List.map_cons, AV.noFs, noFs_adr l, adrV, AV.noF, Bool.and_self]
theorem only2_noF {e e' : TypeId} {k : IntKind} {sz : Nat} {d l : AV} {xs : List Int} {m : List AV} {B : Heap} (hd : SlS e k d xs H0 B) (hl : SlR e' sz l m H0 B) (hm : AV.noFs m = true) : ∀ g c, (B.only [d, l]) g = some c → c.noF = true := by
  intro g c h
  simp only [Heap.only, List.any_cons, List.any_nil, Bool.or_false] at h
  split at h
  · rename_i ho
    rw [Bool.or_eq_true] at ho
    rcases ho with ho | ho
    · rcases hd.own with ⟨rfl, _⟩ | ⟨g1, rfl, _, h1⟩
      · simp [owns] at ho
      · simp [owns] at ho; subst ho; rw [h1] at h; injection h with h; subst h; rfl
    · rcases hl.own with ⟨rfl, _⟩ | ⟨g1, rfl, _, h1⟩
      · simp [owns] at ho
      · simp [owns] at ho; subst ho; rw [h1] at h; injection h with h; subst h; exact hm
  · cases h
def Get4 : ACode := (.seq (.regionD q_reply_Get_4) (.seq (.region q_reply_Get_5) (.seq (.region q_reply_Get_6) (.seq (.seq (.region q_reply_Get_7) (.cond (.t 60) (.seq (.region q_reply_Get_8) .ret) .skip)) (.seq (.region q_reply_Get_9) (.seq (.region q_reply_Get_10) (.seq (.region q_reply_Get_11) (.seq (.seq (.region q_reply_Get_12) (.cond (.t 84) (.seq (.region q_reply_Get_13) .ret) .skip)) (.seq (.seq (.region q_reply_Get_14) (.block 0 (.loop q_reply_Get_L19))) (.seq (.seq (.region q_reply_Get_19) (.cond (.t 106) (.seq (.region q_reply_Get_20) .ret) .skip)) (.seq (.region q_reply_Get_21) .ret)))))))))))
theorem reply_Get_main {b : List Nat} (hb : Bytes b) (hbl : b.length ≤ 30000) {R : APost} (hR : ∀ e env A, fpost a_reply_Get.res (GetQ b) e env A → R e env A) (hh : dHead b = true) {env : AEnv} {A : Heap} {g2 : Nat}
    (e0 : env 0 = .isl .u8 (ints b)) (e2 : env 2 = .ptr g2 0) (e4 : env 4 = .func (.func F_reply_Get_1) [] []) (h2 : A g2 = some (.var 47 (comps zV))) : X Try.prog R Get4 .done env A := by
  have cno : ∀ {A : Heap} {K Kp : AV → Heap → Prop}, K (.tuple [zV, .int .i64 3]) A → SimX Try.prog F_reply_Get_1 [] A (outK K Kp) := fun h => w_reply_Get_1.call .nil rfl h
  have h44 : 44 ≤ b.length := by
    simp only [dHead, Bool.and_eq_true, decide_eq_true_eq] at hh; exact hh.1.1
  have b1 : 1 < b.length := by omega
  have b2 : 2 < b.length := by omega
  have c1 : (1 : Int) < b.length := by omega
  have c2 : (2 : Int) < b.length := by omega
  have c9 : (9 : Int) ≤ b.length := by omega
  have c41 : (41 : Int) ≤ b.length := by omega
  have w1 : IntKind.i64.wrap ((b[1] : Nat) : Int) = ((b[1] : Nat) : Int) := wrap_i64 (by have := hb _ (List.getElem_mem b1); omega)
  simp -implicitDefEqProofs [Get4, q_reply_Get_4, e0, e2, e4, b1, b2, c1, c2, c9, c41, w1, -List.reduceReplicate]
  refine ⟨by omega, ?_⟩
  have hgl : ((b.drop 3).take 6).length = 6 := by simp; omega
  have hg6 := leN_lt _ (bytes_take (bytes_drop hb 3) 6)
  rw [hgl] at hg6
  obtain ⟨n, hn⟩ : ∃ n, leN ((b.drop 3).take 6) = n := ⟨_, rfl⟩
  rw [hn] at hg6
  refine (w_word_Get _ (bytes_take (bytes_drop hb 3) 6) (by omega)).call (.cons (.refl _) rfl .nil) rfl ?_
  have w2 : IntKind.i64.wrap (n : Int) = (n : Int) := wrap_i64 (by omega)
  simp -implicitDefEqProofs [hn, w2, Sub_refl, -List.reduceReplicate]
  intro g5 hg5
  have hg25 : g2 ≠ g5 := fresh_ne h2 hg5
  -- how much data there is
  have hgl2 : ((b.drop 41).take 2).length = 2 := by simp; omega
  have hgN := leN_lt _ (bytes_take (bytes_drop hb 41) 2)
  rw [hgl2] at hgN
  obtain ⟨N, hN⟩ : ∃ N, leN ((b.drop 41).take 2) = N := ⟨_, rfl⟩
  rw [hN] at hgN
  have hdN : dN b = N := hN
  have c43 : (43 : Int) ≤ b.length := by omega
  obtain ⟨ad, had⟩ : ∃ ad, (b.drop 9).take 32 = ad := ⟨_, rfl⟩
  have hadl : ad.length = 32 := by rw [← had]; simp; omega
  have hadt : ad.take 32 = ad := List.take_of_length_le (by omega)
  simp -implicitDefEqProofs [q_reply_Get_5, e0, c43, had, hadt, -List.reduceReplicate]
  refine (w_word_Get _ (bytes_take (bytes_drop hb 41) 2) (by omega)).call (.cons (.refl _) rfl .nil) rfl ?_
  have w3 : IntKind.i64.wrap (N : Int) = (N : Int) := wrap_i64 (by omega)
  have w4 : IntKind.i64.wrap ((N : Int) + 1) = (N : Int) + 1 := wrap_i64 (by omega)
  obtain ⟨B1, hB1⟩ : ∃ x, b.drop 43 = x := ⟨_, rfl⟩
  have hl1 : B1.length + 43 = b.length := by rw [← hB1]; simp; omega
  have hl2 : b.length - 43 = B1.length := by omega
  by_cases hd1 : B1.length < N + 1
  · have hno : ¬ dOK b := fun h => by have := h.2.1; omega
    have hd1' : (B1.length : Int) < (N : Int) + 1 := by omega
    simp -implicitDefEqProofs [hN, w3, q_reply_Get_6, q_reply_Get_7, q_reply_Get_8, e0, e4, c43, w4, hB1, hl2, hd1', -List.reduceReplicate]
    refine cno ?_
    simp -implicitDefEqProofs [zV, e2, hg25, h2, comps, -List.reduceReplicate]
    exact reply_Get_no hR hno (g2 := g2) (by simp [zV, comps]) (by simp [e2]) (by simp)
  have hd1' : ¬ (B1.length : Int) < (N : Int) + 1 := by omega
  have cN : (N : Int) ≤ B1.length := by omega
  have cNl : N < B1.length := by omega
  have cN1 : (N : Int) + 1 ≤ B1.length := by omega
  have hdl : (B1.take N).length = N := by simp; omega
  obtain ⟨D, hD⟩ : ∃ x, B1.take N = x := ⟨_, rfl⟩
  rw [hD] at hdl
  simp -implicitDefEqProofs [hN, w3, q_reply_Get_6, q_reply_Get_7, q_reply_Get_9, e0, e4, c43, w4, hB1, hl2, hd1', cN, hD, -List.reduceReplicate]
  intro g6 n1 n2 hg6
  have hkk : dK b = B1[N] := by
    have : b[43 + N]? = B1[N]? := by rw [← hB1, List.getElem?_drop]
    rw [dK, hdN, this, List.getElem?_eq_getElem cNl]; rfl
  obtain ⟨kk, hkv⟩ : ∃ x, B1[N] = x := ⟨_, rfl⟩
  rw [hkv] at hkk
  have hk256 : kk < 256 := by rw [← hkk]; exact getD_byte hb _
  obtain ⟨B2, hB2⟩ : ∃ x, B1.drop (N + 1) = x := ⟨_, rfl⟩
  have hl3 : B1.length - (N + 1) = B2.length := by rw [← hB2]; simp
  have w5 : IntKind.i64.wrap (kk : Int) = (kk : Int) := wrap_i64 (by omega)
  have w6 : IntKind.i64.wrap (32 * (kk : Int)) = 32 * (kk : Int) := wrap_i64 (by omega)
  refine (SlS.one (e := T_uint8) (l := []) (n := 0) (by simp [n1, n2, hg6]) rfl).appO (ys := ints D) (Sub_refl _) (fun Q hQ => ⟨rfl, hQ⟩) (by simp; omega) fun gd C hd => ?_
  simp only [List.nil_append, ints_length, hdl] at hd ⊢
  have hC5 := hd.sub g5 _ set_eq'
  have hC2 := hd.sub g2 _ ((Heap.set_ne _ _ hg25).trans h2)
  have e1 : ((N : Int) + 1).toNat = N + 1 := by omega
  simp -implicitDefEqProofs [hC5, e0, c43, q_reply_Get_10, q_reply_Get_11, q_reply_Get_12, cNl, cN, cN1, hkv, w4, w5, w6, e1, hB2, hl3, -List.reduceReplicate]
  have er : dRp b = ⟨(b[1] : Nat), ad, D, cut32 kk B2, n, decide (((b[2] : Nat) : Int) = 43)⟩ := by
    have x1 : b[1]?.getD 0 = b[1] := by simp [b1]
    have x2 : b[2]?.getD 0 = b[2] := by simp [b2]
    have x3 : b.drop (44 + N) = B2 := by rw [← hB2, ← hB1, List.drop_drop]; congr 1; omega
    have x4 : (b[2] == 43) = decide (((b[2] : Nat) : Int) = 43) := by
      rw [Bool.eq_iff_iff]; simp; omega
    simp only [dRp, x1, x2, hdN, hkk, x3, x4, hn, had, hB1, hD]
  refine ⟨by omega, fun hlen => ?_, fun hlen => ?_⟩
  case refine_2 =>
    have hno : ¬ dOK b := fun h => by have := h.2.2.1; omega
    simp -implicitDefEqProofs [q_reply_Get_13, e4, -List.reduceReplicate]
    refine cno ?_
    simp -implicitDefEqProofs [zV, e2, hg25, hC2, comps, -List.reduceReplicate]
    exact reply_Get_no hR hno (g2 := g2) (by simp [zV, comps]) (by simp [e2]) (by simp)
  have hl2' : B2.length = 32 * kk := by omega
  simp -implicitDefEqProofs [q_reply_Get_14, -List.reduceReplicate]
  obtain ⟨cell, hcell⟩ : ∃ cell : AV → Cont, cell = fun l => .var 47 [.int .i64 (b[1] : Nat), .iarr .u8 32 (ints ad), .own gd 0 N, l, .int .i64 n, .bool (decide (((b[2] : Nat) : Int) = 43))] := ⟨_, rfl⟩
  have hcl : ∀ l, cell l = .var 47 [.int .i64 (b[1] : Nat), .iarr .u8 32 (ints ad), .own gd 0 N, l, .int .i64 n, .bool (decide (((b[2] : Nat) : Int) = 43))] := fun l => by rw [hcell]
  refine X_lp (fun (s : Nat × AV) env B => s.1 ≤ kk ∧ SlR 39 32 s.2 (((cut32 kk B2).map adrV).take s.1) (C.set g5 (cell s.2)) B ∧ env 0 = .isl .u8 (ints (B2.drop (32 * s.1))) ∧ env 2 = .ptr g2 0 ∧ env 4 = .func (.func F_reply_Get_1) [] [] ∧ env 5 = .ptr g5 0 ∧ env 89 = .int .i64 kk ∧ env 90 = .int .i64 s.1) (fun s => kk - s.1) (0, .nilS)
    ⟨by omega, by rw [hcl]; exact SlR.nil (Sub_refl _), by simp, by simp [e2], by simp [e4], by simp, by simp, by simp⟩ ?_
  rintro ⟨i, l⟩ env B ⟨hi, hl, e0, e2, e4, e5, e89, e90⟩
  simp only at hi hl e0 e90
  have hB5 := hl.sub g5 _ set_eq'
  rw [hcl] at hB5
  have hB2' : B g2 = some (.var 47 (comps zV)) := hl.sub g2 _ ((Heap.set_ne _ _ hg25).trans hC2)
  simp -implicitDefEqProofs [q_reply_Get_L19, q_reply_Get_15, e0, e2, e4, e5, e89, e90, -List.reduceReplicate]
  refine ⟨fun hik => ?_, fun hik => ?_⟩
  · have hic : i < (cut32 kk B2).length := by simpa using hik
    obtain ⟨p, hp⟩ : ∃ p, (B2.drop (32 * i)).take 32 = p := ⟨_, rfl⟩
    have hpl : p.length = 32 := by rw [← hp]; simp; omega
    have hpt : p.take 32 = p := List.take_of_length_le (by omega)
    have hpi : (cut32 kk B2)[i] = p := by rw [cut32_get, hp]
    have hle : 32 ≤ B2.length - 32 * i := by omega
    have hlec : (32 : Int) ≤ ((B2.length - 32 * i : Nat) : Int) := by omega
    have hf : ((cut32 kk B2).map adrV).take (i + 1) = ((cut32 kk B2).map adrV).take i ++ [adrV p] := by rw [← List.map_take, List.take_succ_eq_append_getElem hic, List.map_append, hpi, List.map_take]; rfl
    have hnx : (B2.drop (32 * i)).drop 32 = B2.drop (32 * (i + 1)) := by rw [List.drop_drop]; congr 1
    have hnl : B2.length - 32 * i - 32 = B2.length - 32 * (i + 1) := by omega
    have wi : IntKind.i64.wrap ((i : Int) + 1) = (i : Int) + 1 := wrap_i64 (by omega)
    have hap : adrV p = .iarr .u8 32 (ints p) := rfl
    have hlenI : (((cut32 kk B2).map adrV).take i).length = i := by simp; omega
    have hlenJ : (((cut32 kk B2).map adrV).take (i + 1)).length = i + 1 := by simp; omega
    rcases hl.own with ⟨rfl, hnil⟩ | ⟨gl, rfl, hgl, hBl⟩
    all_goals
      (try rw [hlenI] at hl hB5)
      simp -implicitDefEqProofs [q_reply_Get_16, e0, e5, hB5, hle, hlec, hp, hpt, hpl, -List.reduceReplicate]
      intro g7 hg7
      refine hl.appO (bytes := 32) (ys := [adrV p]) set_eq' rfl rfl (sub_none hg7) hg7 (by simp only [List.length_take, List.length_map, cut32_length, List.length_singleton]; omega) fun g' C' h' => ?_
      rw [← hf, hlenJ] at h' ⊢
      have hC'5 := h'.sub g5 _ set_eq'
      rw [hcl] at hC'5
      have hfin := h'.reset (c' := cell (.own g' 0 (i + 1)))
      rw [hcl] at hfin
      simp -implicitDefEqProofs [q_reply_Get_17, q_reply_Get_18, e0, e2, e4, e5, e89, e90, hC'5, hle, hlec, wi, -List.reduceReplicate]
      refine lp_next (i + 1, .own g' 0 (i + 1)) ⟨?_, ?_, ?_, ?_, ?_, ?_, ?_, ?_⟩ ?_
      · exact hik
      · simp only
        rw [hcl]
        simpa using hfin
      · have e3 : 32 * i + 32 = 32 * (i + 1) := by omega
        have e4 : (B2.drop (32 * (i + 1))).take (B2.length - 32 * i - 32) = B2.drop (32 * (i + 1)) := List.take_of_length_le (by simp; omega)
        simp [e3, e4]
      · simp [e2]
      · simp [e4]
      · simp [e5]
      · simp [e89]
      · simp
      · simp only; omega
  · have hie : i = kk := by omega
    rw [hie, List.take_of_length_le (by simp)] at hl
    have hd' := hl.sub gd _ (show (C.set g5 (cell l)) gd = some (.irow T_uint8 .u8 (ints D)) by
      rcases hd.own with ⟨h, _⟩ | ⟨g, h1, h2, h3⟩
      · cases h
      · injection h1 with h1; subst h1
        rw [set_none] at h2
        rw [Heap.set_ne _ _ h2.1]; exact h3)
    have hgd2 : gd ≠ g2 := by rintro rfl; rw [hd'] at hB2'; cases hB2'
    have hdS : SlS T_uint8 .u8 (.own gd 0 N) (ints D) H0 B := ⟨H0_sub _, .inr ⟨gd, by rw [ints_length, hdl], rfl, hd'⟩⟩
    have chk := w_reply_Check (dRp b)
    rw [er] at chk
    obtain ⟨cv, hcv⟩ : ∃ x, ck (dRp b) = x := ⟨_, rfl⟩
    have hcv' := hcv
    rw [er] at hcv'
    rw [hcv'] at chk
    have hdk : dOK b ↔ cv = 0 := by
      unfold dOK
      rw [hcv]
      constructor
      · exact fun h => h.2.2.2
      · exact fun h => ⟨hh, by omega, by omega, h⟩
    have hlenK : ((cut32 kk B2).map adrV).length = kk := by simp
    rcases hl.own with ⟨rfl, hnil⟩ | ⟨gl, rfl, hgl, hBl⟩
    · skip
      simp -implicitDefEqProofs [q_reply_Get_19, e5, hB5, -List.reduceReplicate]
      refine chk.call (.cons (.agg (.cons (.refl _) (.cons (.refl _) (.cons hdS.vw (.cons hl.vw (.cons (.refl _) (.cons (.refl _) .nil))))))) rfl .nil) rfl ?_
      by_cases hz : cv = 0
      · have hyes := hdk.2 hz
        simp -implicitDefEqProofs [hz, q_reply_Get_21, e2, e5, hB5, hB2', zV, comps, -List.reduceReplicate]
        refine hR _ _ _ ?_
        obtain ⟨c, hc⟩ : ∃ c : Cont, c = .var 47 [.int .i64 (b[1] : Nat), .iarr .u8 32 (ints ad), .own gd 0 N, .nilS, .int .i64 n, .bool (decide (((b[2] : Nat) : Int) = 43))] := ⟨_, rfl⟩
        have hdS2 : SlS T_uint8 .u8 (.own gd 0 N) (ints D) H0 (B.set g2 c) := ⟨H0_sub _, .inr ⟨gd, by rw [ints_length, hdl], rfl, by rw [Heap.set_ne _ _ hgd2]; exact hd'⟩⟩
        have hl2 : SlR 39 32 (.nilS) ((cut32 kk B2).map adrV) H0 (B.set g2 c) := by rw [hnil]; exact SlR.nil (H0_sub _)
        have hnf := only2_noF hdS2 hl2 (noFs_adr _)
        have u1 := SlS_only hdS2 (l := [.own gd 0 N, .nilS]) (by simp)
        have u2 := SlR_only hl2 (l := [.own gd 0 N, .nilS]) (by simp)
        rw [hc] at *
        simp -implicitDefEqProofs [fpost, a_reply_Get, comps, outOf, GetQ, hyes, e2, er, -List.reduceReplicate]
        refine ⟨_, only_sub _ [.own gd 0 N, .nilS], _, _, rfl, ?_⟩
        exact ⟨u1, u2, hnf⟩
      · have hno : ¬ dOK b := fun h => hz (hdk.1 h)
        simp -implicitDefEqProofs [hz, q_reply_Get_20, e4, -List.reduceReplicate]
        refine cno ?_
        simp -implicitDefEqProofs [zV, e2, hB2', comps, -List.reduceReplicate]
        exact reply_Get_no hR hno (g2 := g2) (by simp [zV, comps]) (by simp [e2]) (by simp)
    · rw [hlenK] at hl hB5
      have hgl2 : gl ≠ g2 := by rintro rfl; rw [hBl] at hB2'; cases hB2'
      simp -implicitDefEqProofs [q_reply_Get_19, e5, hB5, -List.reduceReplicate]
      refine chk.call (.cons (.agg (.cons (.refl _) (.cons (.refl _) (.cons hdS.vw (.cons hl.vw (.cons (.refl _) (.cons (.refl _) .nil))))))) rfl .nil) rfl ?_
      by_cases hz : cv = 0
      · have hyes := hdk.2 hz
        simp -implicitDefEqProofs [hz, q_reply_Get_21, e2, e5, hB5, hB2', zV, comps, -List.reduceReplicate]
        refine hR _ _ _ ?_
        obtain ⟨c, hc⟩ : ∃ c : Cont, c = .var 47 [.int .i64 (b[1] : Nat), .iarr .u8 32 (ints ad), .own gd 0 N, .own gl 0 kk, .int .i64 n, .bool (decide (((b[2] : Nat) : Int) = 43))] := ⟨_, rfl⟩
        have hdS2 : SlS T_uint8 .u8 (.own gd 0 N) (ints D) H0 (B.set g2 c) := ⟨H0_sub _, .inr ⟨gd, by rw [ints_length, hdl], rfl, by rw [Heap.set_ne _ _ hgd2]; exact hd'⟩⟩
        have hl2 : SlR 39 32 (.own gl 0 kk) ((cut32 kk B2).map adrV) H0 (B.set g2 c) := ⟨H0_sub _, .inr ⟨gl, by rw [hlenK], rfl, by rw [Heap.set_ne _ _ hgl2]; exact hBl⟩⟩
        have hnf := only2_noF hdS2 hl2 (noFs_adr _)
        have u1 := SlS_only hdS2 (l := [.own gd 0 N, .own gl 0 kk]) (by simp)
        have u2 := SlR_only hl2 (l := [.own gd 0 N, .own gl 0 kk]) (by simp)
        rw [hc] at *
        simp -implicitDefEqProofs [fpost, a_reply_Get, comps, outOf, GetQ, hyes, e2, er, -List.reduceReplicate]
        refine ⟨_, only_sub _ [.own gd 0 N, .own gl 0 kk], _, _, rfl, ?_⟩
        exact ⟨u1, u2, hnf⟩
      · have hno : ¬ dOK b := fun h => hz (hdk.1 h)
        simp -implicitDefEqProofs [hz, q_reply_Get_20, e4, -List.reduceReplicate]
        refine cno ?_
        simp -implicitDefEqProofs [zV, e2, hB2', comps, -List.reduceReplicate]
        exact reply_Get_no hR hno (g2 := g2) (by simp [zV, comps]) (by simp [e2]) (by simp)
theorem w_reply_Get {b : List Nat} (hb : Bytes b) (hbl : b.length ≤ 30000) : SimX Try.prog F_reply_Get [il b] H0 (GetQ b) := by
  refine i_reply_Get (by simp) fun R hR => ?_
  simp -implicitDefEqProofs [-List.reduceReplicate, a_reply_Get, q_reply_Get_0, q_reply_Get_1, il]
  intro g2
  have cno : ∀ {A : Heap} {K Kp : AV → Heap → Prop}, K (.tuple [zV, .int .i64 3]) A → SimX Try.prog F_reply_Get_1 [] A (outK K Kp) := fun h => w_reply_Get_1.call .nil rfl h
  by_cases h44 : b.length < 44
  · have h44' : (b.length : Int) < 44 := by omega
    have hno : ¬ dOK b := fun h => by
      have := h.1
      simp [dHead] at this; omega
    simp -implicitDefEqProofs [-List.reduceReplicate, q_reply_Get_2, q_reply_Get_3, h44']
    refine cno ?_
    simp -implicitDefEqProofs [-List.reduceReplicate, zV]
    exact reply_Get_no hR hno (g2 := g2) (by simp [zV, comps]) (by simp) (by simp)
  have h44' : ¬ (b.length : Int) < 44 := by omega
  have q0 : 0 < b.length := by omega
  have q2 : 2 < b.length := by omega
  have c0 : (0 : Int) < b.length := by omega
  have c2 : (2 : Int) < b.length := by omega
  have g0' : b[0]?.getD 0 = b[0] := by simp [q0]
  have g2' : b[2]?.getD 0 = b[2] := by simp [q2]
  by_cases h65 : b[0] = 65
  case neg =>
    have hno : ¬ dOK b := fun h => by
      have := h.1
      simp [dHead, h65, q0] at this
    have h65' : ¬ ((b[0] : Nat) : Int) = 65 := by omega
    simp -implicitDefEqProofs [-List.reduceReplicate, q_reply_Get_2, q_reply_Get_3, h44', q0, h65, h65']
    refine cno ?_
    simp -implicitDefEqProofs [-List.reduceReplicate, zV]
    exact reply_Get_no hR hno (g2 := g2) (by simp [zV, comps]) (by simp) (by simp)
  by_cases h43 : b[2] = 43 ∨ b[2] = 45
  case neg =>
    have hno : ¬ dOK b := fun h => by
      have := h.1
      simp [dHead, q2] at this
      omega
    have h1 : ¬ b[2] = 43 := by omega
    have h2 : ¬ b[2] = 45 := by omega
    have h1' : ¬ ((b[2] : Nat) : Int) = 43 := by omega
    have h2' : ¬ ((b[2] : Nat) : Int) = 45 := by omega
    simp -implicitDefEqProofs [-List.reduceReplicate, q_reply_Get_2, q_reply_Get_3, h44', q0, q2, c0, c2, h65, h1, h2, h1', h2']
    refine cno ?_
    simp -implicitDefEqProofs [-List.reduceReplicate, zV]
    exact reply_Get_no hR hno (g2 := g2) (by simp [zV, comps]) (by simp) (by simp)
  have hh : dHead b = true := by
    simp only [dHead, g0', g2', h65, Bool.and_eq_true, decide_eq_true_eq, Bool.or_eq_true, beq_iff_eq]
    exact ⟨⟨by omega, trivial⟩, h43⟩
  have main := fun env => reply_Get_main hb hbl hR hh (env := env) (A := H0.set g2 (.var 47 (comps zV))) (g2 := g2)
  simp only [Get4, X_seq, X_regionD, zV, comps] at main
  rcases h43 with h43 | h45
  · simp -implicitDefEqProofs [-List.reduceReplicate, q_reply_Get_2, h44', q0, q2, c0, c2, h65, h43]
    refine main _ ?_ ?_ ?_ ?_ <;> simp
  · have h1 : ¬ b[2] = 43 := by omega
    simp -implicitDefEqProofs [-List.reduceReplicate, q_reply_Get_2, h44', q0, q2, c0, c2, h65, h45]
    refine main _ ?_ ?_ ?_ ?_ <;> simp
/-- As a call. -/
theorem reply_Get_call {b : List Nat} (hb : Bytes b) (hbl : b.length ≤ 30000) {A : Heap} {x : AV} {K Kp : AV → Heap → Prop} (hv : Vw A x (il b)) (hx : x.isAgg = false) (hn : ¬ dOK b → K (.tuple [zV, .int .i64 3]) A)
    (hy : dOK b → ∀ d l B, SlS T_uint8 .u8 d (ints (dRp b).data) A B → SlR 39 32 l ((dRp b).list.map adrV) A B → K (.tuple [rpW (dRp b) d l, .int .i64 0]) B) : SimX Try.prog F_reply_Get [x] A (outK K Kp) := by
  refine SimX.view (w_reply_Get hb hbl) (.cons hv (by rw [hx]; rfl) .nil) (fun o B h => ?_) (fun o B h hd => ?_)
  · unfold GetQ at h
    split at h
    · obtain ⟨d, l, rfl, h1, h2, h3⟩ := h
      refine ⟨?_, h3⟩
      have e1 : d.noF = true := by rcases h1.own with ⟨rfl, _⟩ | ⟨g, rfl, _⟩ <;> rfl
      have e2 : l.noF = true := by rcases h2.own with ⟨rfl, _⟩ | ⟨g, rfl, _⟩ <;> rfl
      simp [AOut.noF, rpW, AV.noF, AV.noFs, adrV, e1, e2]
    · obtain ⟨rfl, rfl⟩ := h
      exact ⟨rfl, fun g c hc => by cases hc⟩
  · unfold GetQ at h
    split at h
    · rename_i hd'
      obtain ⟨d, l, rfl, h1, h2, h3⟩ := h
      exact hy hd' d l _ (SlS_join h1 hd) (SlR_join h2 hd)
    · rename_i hd'
      obtain ⟨rfl, rfl⟩ := h
      rw [join_H0]; exact hn hd'
end Go.Proofs.Ytjbiekcldkjgjaa
