/- Texts of this claim, in order: Ym Yn Yo Yp Yq Yr Ys. -/
import Derived.Test.YtfdckjliinpjiaaTree2
import Derived.Test.YtfdckjliinpjiaaL4
/- The walk of the tree's law's works, light. -/
namespace Go.Proofs.Ytfdckjliinpjiaa
open Go AVL
attribute [-simp] AV.isAgg aappI aapp alen shp good comps szOK aslc List.reduceReplicate
set_option linter.unusedVariables false
set_option linter.unusedSimpArgs false
set_option maxRecDepth 20000

section
variable {A B C D : Heap} {K Kp : AV → Heap → Prop} {P : Program}
/-- Three things, made in memory. -/
def V3 (C : Heap) (x : AV) : Prop := ∃ g a b c, x = .own g 0 3 ∧ C g = some (.row 22 1 [.own a 0 1, .own b 0 1, .own c 0 1]) ∧ C a = some (.irow 5 .u8 [97]) ∧ C b = some (.irow 5 .u8 [98]) ∧ C c = some (.irow 5 .u8 [99])
theorem V3.mono {x : AV} (h : V3 B x) (hs : B.Sub C) : V3 C x := by
  obtain ⟨g, a, b, c, h1, h2, h3, h4, h5⟩ := h
  exact ⟨g, a, b, c, h1, hs _ _ h2, hs _ _ h3, hs _ _ h4, hs _ _ h5⟩
theorem V3.vw {x : AV} (h : V3 C x) : Vw C x (.dsl 1 (txts L3)) := by
  obtain ⟨g, a, b, c, rfl, h2, h3, h4, h5⟩ := h
  exact .ownR (i := 0) (n := 3) h2 (by simp) (.cons (vw_irow (l := ints [97]) h3 rfl) (.cons (vw_irow (l := ints [98]) h4 rfl) (.cons (vw_irow (l := ints [99]) h5 rfl) .nil)))
theorem V3.scl {x : AV} (h : V3 C x) : Scl x := by
  obtain ⟨g, a, b, c, rfl, _⟩ := h
  exact ⟨rfl, rfl, rfl, rfl, rfl, rfl, rfl⟩
theorem RowAt.vw {e : TypeId} {sz : Nat} {p : AV} {m : List AV} (h : RowAt e sz p m C) : Vw C p (.dsl sz m) := by
  rcases h with ⟨rfl, rfl⟩ | ⟨g, rfl, hg⟩
  · exact .nilD sz
  · exact vw_row hg rfl
theorem prf_vw {a n : Int} {p : AV} {m : List (List Nat)} (h : RowAt T_32_uint8 32 p (ads m) C) : Vw C (prf a n p) (prf a n (.dsl 32 (ads m))) :=
  .agg (.cons (.refl _) (.cons (.refl _) (.cons (RowAt.vw h) .nil)))
theorem w3N_ok : AdL [w3N] := fun a ha => by
  simp only [List.mem_cons, List.not_mem_nil, or_false] at ha; subst ha; exact ⟨dig_bytes _, dig_length _⟩
theorem w3R_len : w3R.length = 32 := dig_length _
theorem L3_chk : chkL L3.length = 0 := by decide
theorem prv32 : prvC L3 2 = 0 := by decide
theorem prv33 : prvC L3 3 = 2 := by decide
theorem w_law31_works : Gives Try.prog F_law31_works [] (.bool true) := by
  refine v_law31_works (by simp) ?_
  simp -implicitDefEqProofs [a_law31_works, q_law31_works_0, q_law31_works_1]
  intro ga gb a1 a2 gc b1 b2 b3 b4 g1 c1 c2 c3 c4 c5 c6
  obtain ⟨Y, hY⟩ : ∃ Y, ((((H0.set ga (.irow 5 .u8 [97])).set gb (.irow 5 .u8 [98])).set gc (.irow 5 .u8 [99])).set g1 (.row 22 1 [.own ga 0 1, .own gb 0 1, .own gc 0 1])) = Y := ⟨_, rfl⟩
  have hV : V3 Y (.own g1 0 3) := ⟨g1, ga, gb, gc, rfl, by rw [← hY, set_eq'], by rw [← hY, set_ne' c6, set_ne' b4, set_ne' a2, set_eq'], by rw [← hY, set_ne' c4, set_ne' b2, set_eq'], by rw [← hY, set_ne' c2, set_eq']⟩
  rw [hY]
  clear hY
  simp -implicitDefEqProofs [q_law31_works_2]
  refine (w_tree_Root L3_ths (by decide)).call (.cons hV.vw rfl .nil) rfl ?_
  rw [L3_root, L3_chk]
  simp -implicitDefEqProofs [adV, w3R_len]
  intro g2 h2
  obtain ⟨Y2, hY2⟩ : ∃ Y2, Y.set g2 (.var 23 [.iarr .u8 32 (ints w3R)]) = Y2 := ⟨_, rfl⟩
  have s2 : Y.Sub Y2 := by rw [← hY2]; exact sub_none h2
  have y2 : Y2 g2 = some (.var 23 [.iarr .u8 32 (ints w3R)]) := by rw [← hY2, set_eq']
  rw [hY2]
  replace hV := hV.mono s2
  clear hY2 s2
  simp -implicitDefEqProofs [q_law31_works_3]
  refine Prove_call L3_ths (by decide) hV.vw rfl (at' := 2) (by decide) (by decide) fun p3 C3 hp3 => ?_
  have hs3 := hp3.scl
  rw [prv32, show prvA L3 2 = 2 by decide, show prvO L3 2 = 3 by decide]
  rw [show prvP L3 2 = [w3N] by unfold prvP; rw [if_pos prv32]; exact L3_path] at hp3
  simp -implicitDefEqProofs [prf, hs3.size, hs3.shp, hs3.agg, hs3.good, hs3.comps, hs3.st]
  intro g4 h4
  obtain ⟨Y4, hY4⟩ : ∃ Y4, C3.set g4 (.var 82 [.int .i64 2, .int .i64 3, p3]) = Y4 := ⟨_, rfl⟩
  have s4 : C3.Sub Y4 := by rw [← hY4]; exact sub_none h4
  have y4 : Y4 g4 = some (.var 82 [.int .i64 2, .int .i64 3, p3]) := by rw [← hY4, set_eq']
  replace y2 := s4 _ _ (hp3.sub _ _ y2)
  replace hV := (hV.mono hp3.sub).mono s4
  have hr3 := (hp3.mono s4).rowAt
  rw [hY4]
  clear hY4 s4 hp3
  simp -implicitDefEqProofs [q_law31_works_4]
  refine Prove_call L3_ths (by decide) hV.vw rfl (at' := 3) (by decide) (by decide) fun p6 C6 hp6 => ?_
  have hs6 := hp6.scl
  rw [prv33, show prvA L3 3 = 0 by decide, show prvO L3 3 = 0 by decide]
  simp -implicitDefEqProofs [prf, hs6.size, hs6.shp, hs6.agg, hs6.good, hs6.comps, hs6.st]
  intro g6 h6
  have s6 := sub_tr hp6.sub (sub_none (c := .var 82 [.int .i64 0, .int .i64 0, p6]) h6)
  obtain ⟨Y6, hY6⟩ : ∃ Y6, C6.set g6 (.var 82 [.int .i64 0, .int .i64 0, p6]) = Y6 := ⟨_, rfl⟩
  rw [hY6] at s6 ⊢
  clear hY6 hp6
  replace y2 := s6 _ _ y2
  replace y4 := s6 _ _ y4
  replace hV := hV.mono s6
  replace hr3 := hr3.keep fun x l hx => s6 _ _ hx
  simp -implicitDefEqProofs [q_law31_works_5]
  refine (w_tree_Root (L := []) (fun b hb => by simp at hb) (by decide)).call (.cons (.nilD 1) rfl .nil) rfl ?_
  rw [show chkL ([] : List (List Nat)).length = 1 by decide, show rootR [] = zeroA by unfold rootR; rw [if_neg (by decide)]]
  simp -implicitDefEqProofs [adV, zeroA]
  intro g8 h8
  have s8 := sub_none (c := .var 23 [.iarr .u8 32 (ints (List.replicate 32 0))]) h8
  obtain ⟨Y8, hY8⟩ : ∃ Y8, Y6.set g8 (.var 23 [.iarr .u8 32 (ints (List.replicate 32 0))]) = Y8 := ⟨_, rfl⟩
  rw [hY8] at s8 ⊢
  clear hY8
  replace y2 := s8 _ _ y2
  replace y4 := s8 _ _ y4
  replace hV := hV.mono s8
  replace hr3 := hr3.keep fun x l hx => s8 _ _ hx
  simp -implicitDefEqProofs [q_law31_works_6]
  refine All_call L3_ths L3_chk hV.vw rfl fun r vs C10 s10 hr hall => ?_
  have hsr := hr.scl
  have hvl := hall.len
  replace y2 := s10 _ _ y2
  replace y4 := s10 _ _ y4
  replace hV := hV.mono s10
  replace hr3 := hr3.keep fun x l hx => s10 _ _ hx
  simp -implicitDefEqProofs [hsr.size, hsr.shp, hsr.agg, hsr.good, hsr.comps, hsr.st, q_law31_works_7, y4, hs3.size, hs3.shp, hs3.agg, hs3.good, hs3.comps, hs3.st]
  intro g47 h47
  have s47 := sub_none (c := .irow 5 .u8 [99]) h47
  have e47 : (C10.set g47 (.irow 5 .u8 [99])) g47 = some (.irow 5 .u8 (ints [99])) := set_eq'
  replace y2 := s47 _ _ y2
  replace y4 := s47 _ _ y4
  replace hV := hV.mono s47
  replace hr3 := hr3.keep fun x l hx => s47 _ _ hx
  replace hr := hr.keep fun x l hx => s47 _ _ hx
  obtain ⟨Y47, hY47⟩ : ∃ Y, C10.set g47 (.irow 5 .u8 [99]) = Y := ⟨_, rfl⟩
  rw [hY47] at s47 y2 y4 hV hr3 hr e47 ⊢
  clear hY47
  refine (w_tree_Climb (a := 2) (n := 3) (p := [w3N]) (b := [99]) (by decide) (by decide) w3N_ok (by decide) (by unfold Bytes; decide) (by decide)).call (.cons (prf_vw hr3) rfl (.cons (vw_irow e47 rfl) rfl .nil)) rfl ?_
  rw [clmB3, show clmA 2 3 [w3N] [99] = w3R from clmA3 _]
  simp -implicitDefEqProofs [adV, w3R_len]
  intro g12 h12
  have s12 := sub_none (c := .var 23 [.iarr .u8 32 (ints w3R)]) h12
  have y12 : (Y47.set g12 (.var 23 [.iarr .u8 32 (ints w3R)])) g12 = some (.var 23 [.iarr .u8 32 (ints w3R)]) := set_eq'
  replace y2 := s12 _ _ y2
  replace y4 := s12 _ _ y4
  replace hV := hV.mono s12
  replace hr3 := hr3.keep fun x l hx => s12 _ _ hx
  replace hr := hr.keep fun x l hx => s12 _ _ hx
  obtain ⟨Y12, hY12⟩ : ∃ Y, Y47.set g12 (.var 23 [.iarr .u8 32 (ints w3R)]) = Y := ⟨_, rfl⟩
  rw [hY12] at s12 y2 y4 hV hr3 hr y12 ⊢
  clear hY12
  have hl3 : ∀ F : AV → Prop, alen false p3 F = F (.int .i64 1) := fun F => by rw [hr3.len]; rfl
  simp -implicitDefEqProofs [q_law31_works_8, y2, y4, y12, hl3, w3R_len, hs3.size, hs3.shp, hs3.agg, hs3.good, hs3.comps, hs3.st]
  intro g67 h67
  have s67 := sub_none (c := .irow 5 .u8 [99]) h67
  have e67 : (Y12.set g67 (.irow 5 .u8 [99])) g67 = some (.irow 5 .u8 (ints [99])) := set_eq'
  replace y2 := s67 _ _ y2
  replace y4 := s67 _ _ y4
  replace y12 := s67 _ _ y12
  replace hV := hV.mono s67
  replace hr3 := hr3.keep fun x l hx => s67 _ _ hx
  replace hr := hr.keep fun x l hx => s67 _ _ hx
  obtain ⟨Y67, hY67⟩ : ∃ Y, Y12.set g67 (.irow 5 .u8 [99]) = Y := ⟨_, rfl⟩
  rw [hY67] at s67 y2 y4 y12 hV hr3 hr e67 ⊢
  clear hY67
  refine (w_tree_Verify (r := w3R) (a := 2) (n := 3) (p := [w3N]) (b := [99]) w3R_len (by decide) (by decide) w3N_ok (by decide) (by unfold Bytes; decide) (by decide)).call (.cons (.refl _) rfl (.cons (prf_vw hr3) rfl (.cons (vw_irow e67 rfl) rfl .nil))) rfl ?_
  rw [clmB3, show clmA 2 3 [w3N] [99] = w3R from clmA3 _]
  simp -implicitDefEqProofs [y2, y4, y12, w3R_len, hs3.size, hs3.shp, hs3.agg, hs3.good, hs3.comps, hs3.st]
  intro g74 h74
  have s74 := sub_none (c := .irow 5 .u8 [100]) h74
  have e74 : (Y67.set g74 (.irow 5 .u8 [100])) g74 = some (.irow 5 .u8 (ints [100])) := set_eq'
  replace y2 := s74 _ _ y2
  replace y4 := s74 _ _ y4
  replace y12 := s74 _ _ y12
  replace hV := hV.mono s74
  replace hr3 := hr3.keep fun x l hx => s74 _ _ hx
  replace hr := hr.keep fun x l hx => s74 _ _ hx
  obtain ⟨Y74, hY74⟩ : ∃ Y, Y67.set g74 (.irow 5 .u8 [100]) = Y := ⟨_, rfl⟩
  rw [hY74] at s74 y2 y4 y12 hV hr3 hr e74 ⊢
  clear hY74
  refine (w_tree_Verify (r := w3R) (a := 2) (n := 3) (p := [w3N]) (b := [100]) w3R_len (by decide) (by decide) w3N_ok (by decide) (by unfold Bytes; decide) (by decide)).call (.cons (.refl _) rfl (.cons (prf_vw hr3) rfl (.cons (vw_irow e74 rfl) rfl .nil))) rfl ?_
  have hd : decide (clmA 2 3 [w3N] [100] = w3R) = false := by rw [decide_eq_false_iff_not, clmA3]; exact w3_ne
  rw [clmB3, hd]
  have hlr : ∀ F : AV → Prop, alen false r F = F (.int .i64 3) := fun F => by rw [hr.len, hvl]; rfl
  simp -implicitDefEqProofs [y2, y4, y12, hlr, w3R_len, eqI_ints w3R_len w3R_len]
  refine (w_tree_Depth (n := 3) (by decide) (by decide)).call (.cons (.refl _) rfl .nil) rfl ?_
  rw [show dep (3 : Int).toNat = 2 from dep3]
  simp -implicitDefEqProofs
  refine (w_tree_Depth (n := 1) (by decide) (by decide)).call (.cons (.refl _) rfl .nil) rfl ?_
  rw [show dep (1 : Int).toNat = 0 from dep_one (by decide)]
  simp -implicitDefEqProofs
  refine (w_tree_Check (L := L3) (by decide)).call (.cons hV.vw rfl .nil) rfl ?_
  rw [L3_chk]
  simp -implicitDefEqProofs
  refine (w_tree_Leaf (i := 0) (b := []) (by decide) (by unfold Bytes; decide) (by decide)).call (.cons (.refl _) rfl (.cons (.nil _) rfl .nil)) rfl ?_
  simp -implicitDefEqProofs
  refine (w_tree_Leaf (i := 1) (b := []) (by decide) (by unfold Bytes; decide) (by decide)).call (.cons (.refl _) rfl (.cons (.nil _) rfl .nil)) rfl ?_
  simp -implicitDefEqProofs [eqI_ints (dig_length (lefT 0 [])) (dig_length (lefT 1 [])), w3_leaf, outOf]
end
end Go.Proofs.Ytfdckjliinpjiaa

/- The walks of light and TreeRoots. -/
namespace Go.Proofs.Ytfdckjliinpjiaa
open Go AVL
attribute [-simp] AV.isAgg aappI aapp alen shp good comps szOK aslc List.reduceReplicate
set_option linter.unusedVariables false
set_option linter.unusedSimpArgs false
set_option maxRecDepth 20000

section
variable {A B C D : Heap} {K Kp : AV → Heap → Prop} {P : Program}
theorem txts_in : ∀ {l : List AV}, (∀ x ∈ l, ATy.has (.isl .u8) x) → ∃ L, l = txts L ∧ (∀ b ∈ L, Bytes b)
  | [], _ => ⟨[], rfl, by simp⟩
  | v :: r, h => by
    obtain ⟨L, rfl, h1⟩ := txts_in (l := r) fun n hn => h n (by simp [hn])
    have hv := h v (by simp)
    unfold ATy.has at hv
    obtain ⟨zs, rfl, hl, hw⟩ := hv
    obtain ⟨b, rfl, hb⟩ := bytes_in hw
    refine ⟨b :: L, rfl, ?_⟩
    intro x hx
    rcases List.mem_cons.1 hx with rfl | hx
    · exact hb
    · exact h1 x hx
def Lit (L : List (List Nat)) : Prop := L.length ≤ 40 ∧ ∀ b ∈ L, b.length ≤ 100
instance (L : List (List Nat)) : Decidable (Lit L) := by unfold Lit; infer_instance
def LitI (L : List (List Nat)) (k : Nat) (env : AEnv) (E : Heap) : Prop := k ≤ L.length ∧ (∀ b ∈ L.take k, b.length ≤ 100) ∧ env 0 = .dsl 1 (txts L) ∧ env 3 = .int .i64 k
theorem w_law31_light {L : List (List Nat)} (hl : L.length < 2 ^ 63) : Gives Try.prog F_law31_light [.dsl 1 (txts L)] (.bool (decide (Lit L))) := by
  refine v_law31_light (by simp) ?_
  by_cases h40 : 40 < L.length
  · have h40' : (40 : Int) < L.length := by omega
    have hd : decide (Lit L) = false := by rw [decide_eq_false_iff_not]; intro h; have := h.1; omega
    simp -implicitDefEqProofs [a_law31_light, q_law31_light_0, q_law31_light_1, q_law31_light_2, h40, h40', hd, outOf]
  · have h40' : ¬ (40 : Int) < L.length := by omega
    simp -implicitDefEqProofs [a_law31_light, q_law31_light_0, q_law31_light_1, q_law31_light_3, h40, h40']
    refine X_lp (LitI L) (fun k => L.length - k) 0 ⟨by omega, by simp, by simp, by simp⟩ ?_
    rintro k env E ⟨hk, hall, e0, e3⟩
    by_cases hkl : k < L.length
    · have hkl' : (k : Int) < L.length := by omega
      have wk : IntKind.i64.wrap ((k : Int) + 1) = (k : Int) + 1 := wrap_i64 (by omega)
      by_cases hb : 100 < L[k].length
      · have hb' : (100 : Int) < L[k].length := by omega
        have hd : decide (Lit L) = false := by rw [decide_eq_false_iff_not]; intro h; have := h.2 L[k] (List.getElem_mem hkl); omega
        simp -implicitDefEqProofs [q_law31_light_L8, q_law31_light_4, q_law31_light_5, q_law31_light_6, e0, e3, hkl, hkl', hb, hb', hd, outOf]
      · have hb' : ¬ (100 : Int) < L[k].length := by omega
        simp -implicitDefEqProofs [q_law31_light_L8, q_law31_light_4, q_law31_light_5, q_law31_light_7, e0, e3, hkl, hkl', hb, hb', wk]
        refine lp_next (k + 1) ⟨by omega, ?_, by simp [e0], by simp⟩ (by omega)
        rw [← take_one hkl]
        intro b hm
        rcases List.mem_append.1 hm with h | h
        · exact hall b h
        · simp at h; subst h; omega
    · have hkl' : ¬ (k : Int) < L.length := by omega
      rw [List.take_of_length_le (by omega)] at hall
      have hd : decide (Lit L) = true := decide_eq_true ⟨by omega, hall⟩
      simp -implicitDefEqProofs [q_law31_light_L8, q_law31_light_4, q_law31_light_8, e0, e3, hkl, hkl', hd, outOf]
theorem Lit.ths {L : List (List Nat)} (h : Lit L) (hb : ∀ b ∈ L, Bytes b) : Ths L := fun b hm => ⟨hb b hm, by have := h.2 b hm; omega⟩
theorem rootR_len (L : List (List Nat)) : (rootR L).length = 32 := by
  unfold rootR; split
  · exact dig_length _
  · rfl
theorem pathU_ok : ∀ (n : Nat) (M : List (List Nat)) (i : Nat), M.length = n → AdL M → AdL (pathU M i) := by
  intro n
  induction n using Nat.strongRecOn with
  | ind n ih =>
  intro M i hn hM
  by_cases h : 2 ≤ M.length
  · rw [pathU_more h]
    intro a ha
    rcases List.mem_append.1 ha with ha | ha
    · cases hg : M[i ^^^ 1]? with
      | none => rw [hg] at ha; simp at ha
      | some b =>
        rw [hg] at ha
        simp at ha; subst ha
        exact hM _ (List.mem_of_getElem? hg)
    · exact ih ((n + 1) / 2) (by omega) (upL M) (i / 2) (by rw [upL_length]; omega) (upL_ok hM) a ha
  · rw [pathU_one (by omega)]; intro a ha; simp at ha
theorem pathU_len10 {M : List (List Nat)} {i : Nat} (h1 : M.length ≤ 1024) : (pathU M i).length ≤ 10 :=
  Nat.le_trans (pathU_length M.length M i rfl) (dep_bound 10 _ (by omega))
theorem w_TreeRoots {L : List (List Nat)} {a n : Int} (hL : ∀ b ∈ L, Bytes b) (hl : L.length < 2 ^ 63) (ha1 : -2 ^ 63 ≤ a) (ha2 : a < 2 ^ 63) (hn1 : -2 ^ 63 ≤ n) (hn2 : n < 2 ^ 63) :
    Gives Try.prog F_law31_TreeRoots [.dsl 1 (txts L), .int .i64 a, .int .i64 n] (.bool true) := by
  refine v_law31_TreeRoots (by simp) ?_
  simp -implicitDefEqProofs [a_law31_TreeRoots, q_law31_TreeRoots_0, q_law31_TreeRoots_1]
  refine (w_law31_light hl).call (.cons (.refl _) rfl .nil) rfl ?_
  by_cases hlit : Lit L
  case neg =>
    have hd : decide (Lit L) = false := by simpa using hlit
    simp -implicitDefEqProofs [hd, q_law31_TreeRoots_2]
    refine w_law31_works.call .nil rfl ?_
    simp -implicitDefEqProofs [outOf]
  have hd : decide (Lit L) = true := by simpa using hlit
  have hT := hlit.ths hL
  have hl40 := hlit.1
  have hrl := rootR_len L
  rw [hd]
  simp -implicitDefEqProofs [q_law31_TreeRoots_3]
  refine (w_tree_Root hT (by omega)).call (.cons (.refl _) rfl .nil) rfl ?_
  simp -implicitDefEqProofs [adV, hrl]
  intro g7
  simp -implicitDefEqProofs [q_law31_TreeRoots_4]
  refine (w_ref31_Root hT (by omega)).call (.cons (.refl _) rfl .nil) rfl ?_
  simp -implicitDefEqProofs [adV, hrl]
  intro g9 n9 n9'
  simp -implicitDefEqProofs [q_law31_TreeRoots_5, n9, n9', hrl, eqI_ints hrl hrl]
  refine (w_tree_Check (L := L) (by omega)).call (.cons (.refl _) rfl .nil) rfl ?_
  simp -implicitDefEqProofs [q_law31_TreeRoots_7]
  refine Prove_call hT (by omega) (.refl _) rfl ha1 ha2 fun p C hp => ?_
  have hs := hp.scl
  have hpl : ∀ F : AV → Prop, alen false p F = F (.int .i64 (prvP L a).length) := fun F => by rw [hp.len]; simp
  simp -implicitDefEqProofs [prf, hs.size, hs.shp, hs.agg, hs.good, hs.comps, hs.st]
  intro g11 h11
  have s11 := sub_none (c := .var 82 [.int .i64 (prvA L a), .int .i64 (prvO L a), p]) h11
  obtain ⟨Y, hY⟩ : ∃ Y, C.set g11 (.var 82 [.int .i64 (prvA L a), .int .i64 (prvO L a), p]) = Y := ⟨_, rfl⟩
  have y11 : Y g11 = some (.var 82 [.int .i64 (prvA L a), .int .i64 (prvO L a), p]) := by rw [← hY, set_eq']
  have hr : RowAt T_32_uint8 32 p (ads (prvP L a)) Y := by rw [← hY]; exact (hp.mono s11).rowAt
  rw [hY]
  clear hY s11 hp
  have bad : ∀ c : Int, prvC L a = c → c ≠ 0 → prvP L a = [] := fun c h1 h2 => by unfold prvP; rw [if_neg (by rw [h1]; exact h2)]
  by_cases hc : chkL L.length = 0
  · by_cases h0 : a < 0
    · have hC : prvC L a = 2 := by unfold prvC; rw [if_neg (by simp [hc]), if_pos (.inl h0)]
      rw [bad 2 hC (by decide)] at hpl
      simp -implicitDefEqProofs [q_law31_TreeRoots_8, q_law31_TreeRoots_9, hc, h0, hC, y11, hpl, hs.size, hs.shp, hs.agg, hs.good, hs.comps, hs.st]
      refine w_law31_works.call .nil rfl ?_
      simp -implicitDefEqProofs [outOf]
    by_cases h1 : (L.length : Int) ≤ a
    · have hC : prvC L a = 2 := by unfold prvC; rw [if_neg (by simp [hc]), if_pos (.inr h1)]
      rw [bad 2 hC (by decide)] at hpl
      simp -implicitDefEqProofs [q_law31_TreeRoots_8, q_law31_TreeRoots_9, hc, h0, h1, hC, y11, hpl, hs.size, hs.shp, hs.agg, hs.good, hs.comps, hs.st]
      refine w_law31_works.call .nil rfl ?_
      simp -implicitDefEqProofs [outOf]
    have hC : prvC L a = 0 := by unfold prvC; rw [if_neg (by simp [hc]), if_neg (by omega)]
    have hA : prvA L a = a := by unfold prvA; rw [if_pos hC]
    have hO : prvO L a = L.length := by unfold prvO; rw [if_pos hC]
    have hP : prvP L a = pathU (lvs 0 L) a.toNat := by unfold prvP; rw [if_pos hC]
    rw [hP] at hr hpl
    rw [hA, hO] at y11
    obtain ⟨m, rfl⟩ : ∃ m : Nat, a = m := ⟨a.toNat, by omega⟩
    rw [Int.toNat_natCast] at hr hpl
    have hm : m < L.length := by omega
    have hm' : (m : Int) < L.length := by omega
    have hb := hT L[m] (List.getElem_mem hm)
    have hl32 := dig_length (lefT m L[m])
    simp -implicitDefEqProofs [q_law31_TreeRoots_8, q_law31_TreeRoots_10, hc, h0, h1, hC, hm, hm', y11, hs.size, hs.shp, hs.agg, hs.good, hs.comps, hs.st]
    have hpo := pathU_ok L.length (lvs 0 L) m (by simp) (lvs_ok 0 L)
    have hp10 := pathU_len10 (M := lvs 0 L) (i := m) (by simp; omega)
    refine (w_ref31_Path hT hm (by omega)).call (.cons (.refl _) rfl (.cons (.refl _) rfl .nil)) (ads_noF _) fun v C2 hv => ?_
    have hsv := hv.scl
    have c11 := hv.sub _ _ y11
    have hr2 := hr.keep fun x l hx => hv.sub _ _ hx
    simp -implicitDefEqProofs [c11, y11, hs.size, hs.shp, hs.agg, hs.good, hs.comps, hs.st, hsv.size, hsv.shp, hsv.agg, hsv.good, hsv.comps, hsv.st]
    refine (w_ref31_Same hpo hpo (by omega) (by omega)).call (.cons (RowAt.vw hr2) hs.agg (.cons hv.vw hsv.agg .nil)) rfl ?_
    simp -implicitDefEqProofs [hm, hm', hs.size, hs.shp, hs.agg, hs.good, hs.comps, hs.st, hsv.size, hsv.shp, hsv.agg, hsv.good, hsv.comps, hsv.st]
    refine (w_tree_Leaf (by omega) hb.1 hb.2).call (.cons (.refl _) rfl (.cons (.refl _) rfl .nil)) rfl ?_
    simp -implicitDefEqProofs [hl32]
    refine sim_LeafText (by omega) hb.2 (.isl L[m]) fun v9 C9 hv9 => ?_
    have hs9 := hv9.scl
    simp -implicitDefEqProofs [hs9.size, hs9.shp, hs9.agg, hs9.good, hs9.comps, hs9.st]
    refine (w_ref03_Sum (lefT_bytes hb.1) (by have := hb.2; simp [lefT, lefW]; omega)).call (.cons hv9.vw hs9.agg .nil) rfl ?_
    simp -implicitDefEqProofs [hl32, eqI_ints hl32 hl32, q_law31_TreeRoots_12]
    refine ⟨fun hbig => ?_, fun hsm => ?_⟩
    · simp -implicitDefEqProofs [q_law31_TreeRoots_13]
      refine w_law31_works.call .nil rfl ?_
      simp -implicitDefEqProofs [outOf]
    · simp -implicitDefEqProofs [q_law31_TreeRoots_14]
      refine (w_tree_Depth hn1 (by omega)).call (.cons (.refl _) rfl .nil) rfl ?_
      simp -implicitDefEqProofs
      refine (w_ref31_Rows hn1 (by omega)).call (.cons (.refl _) rfl .nil) rfl ?_
      simp -implicitDefEqProofs
      refine w_law31_works.call .nil rfl ?_
      simp -implicitDefEqProofs [outOf]
  · have hC : prvC L a = chkL L.length := by unfold prvC; rw [if_pos hc]
    rw [bad _ hC hc] at hpl
    simp -implicitDefEqProofs [q_law31_TreeRoots_8, q_law31_TreeRoots_9, hc, hC, y11, hpl, hs.size, hs.shp, hs.agg, hs.good, hs.comps, hs.st]
    refine w_law31_works.call .nil rfl ?_
    simp -implicitDefEqProofs [outOf]
end
end Go.Proofs.Ytfdckjliinpjiaa

/- The walk of TreeBack. -/
namespace Go.Proofs.Ytfdckjliinpjiaa
open Go AVL
attribute [-simp] AV.isAgg aappI aapp alen shp good comps szOK aslc List.reduceReplicate
set_option linter.unusedVariables false
set_option linter.unusedSimpArgs false
set_option maxRecDepth 20000

section
variable {A B C D : Heap} {K Kp : AV → Heap → Prop} {P : Program}
/-- The way from a thing that stands there leads to the sum. -/
theorem clm_path {L : List (List Nat)} (h1 : chkL L.length = 0) {k : Nat} (hk : k < L.length) : clmI k L.length (pathU (lvs 0 L) k) L[k] = some (topD (lvs 0 L), []) := by
  obtain ⟨g1, g2⟩ := chkL_zero h1
  unfold clmI
  rw [if_neg (by omega)]
  simp only [Int.toNat_natCast]
  refine climb_path L.length (lvs 0 L) k _ (by simp) ?_
  rw [List.getElem?_eq_getElem (by simpa using hk), lvs_get 0 L k hk, Nat.zero_add]
theorem clmA_path {L : List (List Nat)} (h1 : chkL L.length = 0) {k : Nat} (hk : k < L.length) : clmA k L.length (pathU (lvs 0 L) k) L[k] = rootR L := by
  unfold clmA rootR; rw [clm_path h1 hk, if_pos h1]; simp
theorem clmB_path {L : List (List Nat)} (h1 : chkL L.length = 0) {k : Nat} (hk : k < L.length) : clmB k L.length (pathU (lvs 0 L) k) L[k] = true := by
  unfold clmB; rw [clm_path h1 hk]; simp
def BakI (L : List (List Nat)) (E0 : Heap) (g3 : Nat) (r : AV) (k : Nat) (env : AEnv) (E : Heap) : Prop := k ≤ L.length ∧ E0.Sub E ∧ env 0 = .dsl 1 (txts L) ∧ env 3 = .ptr g3 0 ∧ env 5 = r ∧ env 7 = .int .i64 k
theorem w_TreeBack {L : List (List Nat)} (hL : ∀ b ∈ L, Bytes b) (hl : L.length < 2 ^ 63) : Gives Try.prog F_law31_TreeBack [.dsl 1 (txts L)] (.bool true) := by
  refine v_law31_TreeBack (by simp) ?_
  simp -implicitDefEqProofs [a_law31_TreeBack, q_law31_TreeBack_0, q_law31_TreeBack_1]
  refine (w_law31_light hl).call (.cons (.refl _) rfl .nil) rfl ?_
  by_cases hlit : Lit L
  case neg =>
    have hd : decide (Lit L) = false := by simpa using hlit
    rw [hd]
    simp -implicitDefEqProofs [q_law31_TreeBack_2]
    refine w_law31_works.call .nil rfl ?_
    simp -implicitDefEqProofs [outOf]
  have hd : decide (Lit L) = true := by simpa using hlit
  have hT := hlit.ths hL
  have hl40 := hlit.1
  rw [hd]
  by_cases h0 : L.length = 0
  · have h0' : (L.length : Int) = 0 := by omega
    simp -implicitDefEqProofs [h0, h0', q_law31_TreeBack_2]
    refine w_law31_works.call .nil rfl ?_
    simp -implicitDefEqProofs [outOf]
  have h0' : ¬ (L.length : Int) = 0 := by omega
  have hne : ¬ L = [] := by rintro rfl; exact h0 rfl
  have hc : chkL L.length = 0 := by unfold chkL; rw [if_neg h0, if_neg (by omega)]
  have hrl := rootR_len L
  simp -implicitDefEqProofs [h0, h0', hne, q_law31_TreeBack_3]
  refine (w_tree_Root hT (by omega)).call (.cons (.refl _) rfl .nil) rfl ?_
  rw [hc]
  simp -implicitDefEqProofs [adV, hrl]
  intro g3
  simp -implicitDefEqProofs [q_law31_TreeBack_4]
  refine All_call hT hc (.refl _) rfl fun r vs C hs hr hall => ?_
  have hsr := hr.scl
  have c3 := hs g3 _ set_eq'
  have hvl := hall.len
  simp only [List.length_range] at hvl
  have hlr : ∀ F : AV → Prop, alen false r F = F (.int .i64 L.length) := fun F => by rw [hr.len, hvl]
  simp -implicitDefEqProofs [hsr.size, hsr.shp, hsr.agg, hsr.good, hsr.comps, hsr.st, q_law31_TreeBack_5, q_law31_TreeBack_7, hlr]
  refine X_lp (BakI L C g3 r) (fun k => L.length - k) 0 ⟨by omega, Sub_refl C, by simp, by simp, by simp, by simp⟩ ?_
  rintro k env E ⟨hk, hsub, e0, e3, e5, e7⟩
  replace c3 := hsub _ _ c3
  by_cases hkl : k < L.length
  · have hkl' : (k : Int) < L.length := by omega
    have wk : IntKind.i64.wrap ((k : Int) + 1) = (k : Int) + 1 := wrap_i64 (by omega)
    obtain ⟨gr, r1, r2⟩ := hr.pos (by omega)
    rw [hvl] at r1
    replace r2 := hsub _ _ r2
    have hkv : k < vs.length := by omega
    obtain ⟨_, p, hp1, hp2⟩ := hall.get k (by simpa using hkl)
    simp only [List.getElem_range] at hp1 hp2
    replace hp2 := hp2.keep fun x l hx => hsub _ _ hx
    have hps := RowAt.scl hp2
    have hb := hT L[k] (List.getElem_mem hkl)
    have hA := clmA_path hc hkl
    have hB := clmB_path hc hkl
    have hpo := pathU_ok L.length (lvs 0 L) k (by simp) (lvs_ok 0 L)
    have hp10 := pathU_len10 (M := lvs 0 L) (i := k) (by simp; omega)
    have hpd := pathU_length L.length (lvs 0 L) k (by simp)
    have hlp : ∀ F : AV → Prop, alen false p F = F (.int .i64 (pathU (lvs 0 L) k).length) := fun F => by rw [hp2.len]; simp
    simp -implicitDefEqProofs [q_law31_TreeBack_L13, q_law31_TreeBack_8, q_law31_TreeBack_9, e0, e3, e5, e7, hkl, hkl', r1, r2, hkv, hp1, prf, hps.size, hps.shp, hps.agg, hps.good, hps.comps, hps.st]
    refine (w_tree_Climb (a := k) (n := L.length) (p := pathU (lvs 0 L) k) (b := L[k]) (by omega) (by omega) hpo (by omega) hb.1 hb.2).call (.cons (prf_vw hp2) rfl (.cons (.refl _) rfl .nil)) rfl ?_
    rw [hA, hB]
    simp -implicitDefEqProofs [adV, hrl]
    intro g8 h8
    have s8 := sub_none (c := .var 23 [.iarr .u8 32 (ints (rootR L))]) h8
    obtain ⟨Y, hY⟩ : ∃ Y, E.set g8 (.var 23 [.iarr .u8 32 (ints (rootR L))]) = Y := ⟨_, rfl⟩
    have y8 : Y g8 = some (.var 23 [.iarr .u8 32 (ints (rootR L))]) := by rw [← hY, set_eq']
    rw [hY] at s8 ⊢
    clear hY
    replace c3 := s8 _ _ c3
    replace r2 := s8 _ _ r2
    replace hp2 := hp2.keep fun x l hx => s8 _ _ hx
    simp -implicitDefEqProofs [q_law31_TreeBack_10, e0, e3, e5, e7, c3, y8, hrl, eqI_ints hrl hrl, hkl, hkl', r1, r2, hkv, hp1, prf, hlp, hps.size, hps.shp, hps.agg, hps.good, hps.comps, hps.st]
    refine (w_tree_Verify (r := rootR L) (a := k) (n := L.length) (p := pathU (lvs 0 L) k) (b := L[k]) hrl (by omega) (by omega) hpo (by omega) hb.1 hb.2).call (.cons (.refl _) rfl (.cons (prf_vw hp2) rfl (.cons (.refl _) rfl .nil))) rfl ?_
    rw [hA, hB]
    simp -implicitDefEqProofs [e0, e3, e5, e7, c3, y8, hkl, hkl', r1, r2, hkv, hp1, prf, hlp, hps.size, hps.shp, hps.agg, hps.good, hps.comps, hps.st]
    have hdep := w_tree_Depth (n := L.length) (by omega) (by omega)
    rw [Int.toNat_natCast] at hdep
    refine hdep.call (.cons (.refl _) rfl .nil) rfl ?_
    have hnd : ¬ (dep L.length : Int) < (pathU (lvs 0 L) k).length := by omega
    have hnd' : ¬ dep L.length < (pathU (lvs 0 L) k).length := by omega
    simp -implicitDefEqProofs [hnd, hnd', r2, Sub_refl, q_law31_TreeBack_12, e7, wk]
    exact lp_next (k + 1) ⟨by omega, sub_tr hsub s8, by simp [e0], by simp [e3], by simp [e5, r1], by simp⟩ (by omega)
  · have hkl' : ¬ (k : Int) < L.length := by omega
    simp -implicitDefEqProofs [q_law31_TreeBack_L13, q_law31_TreeBack_8, q_law31_TreeBack_13, e0, e7, hkl, hkl']
    refine w_law31_works.call .nil rfl ?_
    simp -implicitDefEqProofs [outOf]
end
end Go.Proofs.Ytfdckjliinpjiaa

/- Texts that are summed, clashes; plainly, and the walk of clash. -/
namespace Go.Proofs.Ytfdckjliinpjiaa
open Go AVL
attribute [-simp] AV.isAgg aappI aapp alen shp good comps szOK aslc List.reduceReplicate
set_option linter.unusedVariables false
set_option linter.unusedSimpArgs false
set_option maxRecDepth 20000

section
variable {A B C D : Heap} {K Kp : AV → Heap → Prop} {P : Program}
/-- Two unlike texts with one sum. -/
def Cla (Ts : List (List Nat)) : Prop := ∃ v ∈ Ts, ∃ w ∈ Ts, v ≠ w ∧ dig v = dig w
theorem rotT_inj {n m : Nat} {a b : List Nat} (hn : n ≤ 1024) (hm : m ≤ 1024) (h : rotT n a = rotT m b) : n = m ∧ a = b := by
  unfold rotT at h
  rw [List.append_assoc, List.append_assoc] at h
  have h1 := List.append_cancel_left h
  have h2 := List.append_inj h1 (by simp)
  refine ⟨?_, h2.2⟩
  have h3 := h2.1
  simp [le] at h3
  omega
theorem lefT_inj {n : Nat} {a b : List Nat} (h : lefT n a = lefT n b) : a = b := List.append_cancel_left h
/-- The texts of a proof: on the way up, and on top. -/
def txP (n a : Nat) (b : List Nat) (p : List (List Nat)) : List (List Nat) := chain n a (lefT a b) p ++ (match climb n a (dig (lefT a b)) p with
  | some (x, _) => [rotT n x]
  | none => [])
theorem tells {L : List (List Nat)} {a n : Nat} {p : List (List Nat)} {b x : List Nat} (hc : chkL L.length = 0) (hp : ∀ x ∈ p, x.length = 32) (hn : n ≤ 1024) (ha : a < n)
    (hB : climb n a (dig (lefT a b)) p = some (x, [])) (hA : dig (rotT n x) = rootR L) (a' : Nat) (ha' : a' < L.length) (haa : a < L.length → a' = a) (hne : ¬ (n = L.length ∧ L[a']? = some b ∧ a < L.length)) :
    Cla (txP n a b p ++ txP L.length a' L[a'] (pathU (lvs 0 L) a')) := by
  have hq : climb L.length a' (dig (lefT a' L[a'])) (pathU (lvs 0 L) a') = some (topD (lvs 0 L), []) := by
    refine climb_path L.length (lvs 0 L) a' _ (by simp) ?_
    rw [List.getElem?_eq_getElem (by simpa using ha'), lvs_get 0 L a' ha', Nat.zero_add]
  obtain ⟨l1, l2⟩ := chkL_zero hc
  have hR : rootR L = dig (rotT L.length (topD (lvs 0 L))) := by unfold rootR; rw [if_pos hc]
  unfold txP
  rw [hB, hq]
  by_cases hr : rotT n x = rotT L.length (topD (lvs 0 L))
  · obtain ⟨rfl, rfl⟩ := rotT_inj hn l2 hr
    have := haa ha
    subst this
    have hb : ¬ b = L[a'] := by rintro rfl; exact hne ⟨rfl, List.getElem?_eq_getElem ha', ha⟩
    have hpo := pathU_ok L.length (lvs 0 L) a' (by simp) (lvs_ok 0 L)
    obtain ⟨v, hv, w, hw, k1, k2⟩ := two_ways L.length a' (lefT a' b) (lefT a' L[a']) p (pathU (lvs 0 L) a') _ hp (fun y hy => (hpo y hy).2) hB hq (fun e => hb (lefT_inj e))
    exact ⟨v, by simp [hv], w, by simp [hw], k1, k2⟩
  · exact ⟨rotT n x, by simp, rotT L.length (topD (lvs 0 L)), by simp, hr, by rw [hA, hR]⟩
def ClaI (Ts : List (List Nat)) (i : Nat) (env : AEnv) (E : Heap) : Prop := i ≤ Ts.length ∧ (∀ i' k' (h1 : i' < i) (h2 : k' < i') (h3 : i' < Ts.length), ¬ (Ts[i'] ≠ Ts[k'] ∧ dig Ts[i'] = dig Ts[k'])) ∧ env 0 = .dsl 1 (txts Ts) ∧ env 3 = .int .i64 i
def ClbI (Ts : List (List Nat)) (i : Nat) (k : Nat) (env : AEnv) (E : Heap) : Prop := k ≤ i ∧ (∀ k' (h2 : k' < k) (h3 : i < Ts.length) (h4 : k' < Ts.length), ¬ (Ts[i] ≠ Ts[k'] ∧ dig Ts[i] = dig Ts[k'])) ∧ env 0 = .dsl 1 (txts Ts) ∧ env 3 = .int .i64 i ∧ env 4 = .int .i64 k
theorem strOf_dec {a b : List Nat} (ha : Bytes a) (hb : Bytes b) : decide (strOf (ints a) = strOf (ints b)) = decide (a = b) := by
  refine decide_eq_decide.2 ⟨fun h => ?_, fun h => by rw [h]⟩
  have h1 : (strOf (ints a)).data.toList = (strOf (ints b)).data.toList := by rw [h]
  simp only [strOf, ints, List.map_map] at h1
  have key : ∀ {l m : List Nat}, Bytes l → Bytes m → l.map ((fun n : Int => UInt8.ofNat n.toNat) ∘ fun n : Nat => (n : Int)) = m.map ((fun n : Int => UInt8.ofNat n.toNat) ∘ fun n : Nat => (n : Int)) → l = m := by
    intro l
    induction l with
    | nil => intro m _ _ h; cases m with
      | nil => rfl
      | cons => simp at h
    | cons x xs ih =>
      intro m hl hm h
      cases m with
      | nil => simp at h
      | cons y ys =>
        simp only [List.map_cons, List.cons.injEq, Function.comp_apply, Int.toNat_natCast] at h
        have hx := hl x (by simp)
        have hy := hm y (by simp)
        have := congrArg UInt8.toNat h.1
        simp at this
        rw [Nat.mod_eq_of_lt hx, Nat.mod_eq_of_lt hy] at this
        rw [this, ih (fun z hz => hl z (by simp [hz])) (fun z hz => hm z (by simp [hz])) h.2]
  exact key ha hb (by simpa using h1)
theorem w_law31_clash {Ts : List (List Nat)} (hT : ∀ t ∈ Ts, Bytes t ∧ t.length ≤ 90000) (hl : Ts.length ≤ 100000) (hC : Cla Ts) : Gives Try.prog F_law31_clash [.dsl 1 (txts Ts)] (.bool true) := by
  refine v_law31_clash (by simp) ?_
  simp -implicitDefEqProofs [a_law31_clash, q_law31_clash_0, q_law31_clash_1]
  refine X_lp (ClaI Ts) (fun i => Ts.length - i) 0 ⟨by omega, by intros; omega, by simp, by simp⟩ ?_
  rintro i env E ⟨hi, hno, e0, e3⟩
  by_cases hil : i < Ts.length
  · have hil' : (i : Int) < Ts.length := by omega
    have wi : IntKind.i64.wrap ((i : Int) + 1) = (i : Int) + 1 := wrap_i64 (by omega)
    simp -implicitDefEqProofs [q_law31_clash_L9, q_law31_clash_2, q_law31_clash_3, e0, e3, hil, hil']
    refine X_lp (ClbI Ts i) (fun k => i - k) 0 ⟨by omega, by intros; omega, by simp [e0], by simp [e3], by simp⟩ ?_
    clear e0 e3
    rintro k env E ⟨hk, hno2, e0, e3, e4⟩
    by_cases hki : k < i
    · have hki' : (k : Int) < i := by omega
      have hkl : k < Ts.length := by omega
      have hkl' : (k : Int) < Ts.length := by omega
      have wk : IntKind.i64.wrap ((k : Int) + 1) = (k : Int) + 1 := wrap_i64 (by omega)
      have b1 := hT Ts[i] (List.getElem_mem hil)
      have b2 := hT Ts[k] (List.getElem_mem hkl)
      simp -implicitDefEqProofs [q_law31_clash_L8, q_law31_clash_4, q_law31_clash_5, e0, e3, e4, hil, hil', hki, hki', hkl, hkl']
      have hsd := strOf_dec b1.1 b2.1
      have l1 := dig_length Ts[i]
      have l2 := dig_length Ts[k]
      have go : ¬ (Ts[i] ≠ Ts[k] ∧ dig Ts[i] = dig Ts[k]) → ClbI Ts i (k + 1) (upd (upd (upd env 14 (.int .i64 k)) 15 (.int .i64 ((k : Int) + 1))) 4 (.int .i64 ((k : Int) + 1))) E := fun hno3 => by
        refine ⟨by omega, fun k' h2 h3 h4 => ?_, by simp [e0], by simp [e3], by simp⟩
        by_cases e : k' = k
        · subst e; exact hno3
        · exact hno2 k' (by omega) h3 h4
      rw [hsd]
      by_cases hne : Ts[i] = Ts[k]
      · have hdd : decide (Ts[i] = Ts[k]) = true := decide_eq_true hne
        rw [hdd]
        simp -implicitDefEqProofs [q_law31_clash_7, e4, wk]
        refine lp_next (k + 1) ⟨by omega, (go (fun h => h.1 hne)).2.1, by simp [e0], by simp [e3], by simp⟩ (by omega)
      · have hdd : decide (Ts[i] = Ts[k]) = false := decide_eq_false hne
        rw [hdd]
        simp -implicitDefEqProofs [e0, e3, e4, hil, hil', hkl, hkl']
        refine (w_ref03_Sum b1.1 (by omega)).call (.cons (.refl _) rfl .nil) rfl ?_
        simp -implicitDefEqProofs [e0, e3, e4, hil, hil', hkl, hkl', l1]
        refine (w_ref03_Sum b2.1 (by omega)).call (.cons (.refl _) rfl .nil) rfl ?_
        simp -implicitDefEqProofs [l1, l2, eqI_ints l1 l2]
        refine ⟨fun heq => ?_, fun hneq => ?_⟩
        · simp -implicitDefEqProofs [q_law31_clash_6, outOf]
        · simp -implicitDefEqProofs [q_law31_clash_7, e4, wk]
          refine lp_next (k + 1) ⟨by omega, (go (fun h => hneq h.2)).2.1, by simp [e0], by simp [e3], by simp⟩ (by omega)
    · have hki' : ¬ (k : Int) < i := by omega
      simp -implicitDefEqProofs [q_law31_clash_L8, q_law31_clash_4, q_law31_clash_8, e0, e3, e4, hki, hki', wi]
      refine lp_next (i + 1) ⟨by omega, fun i' k' h1 h2 h3 => ?_, by simp [e0], by simp⟩ (by omega)
      by_cases e : i' = i
      · subst e; exact hno2 k' (by omega) h3 (by omega)
      · exact hno i' k' (by omega) h2 h3
  · have hil' : ¬ (i : Int) < Ts.length := by omega
    exfalso
    obtain ⟨v, hv, w, hw, k1, k2⟩ := hC
    obtain ⟨x, hx, rfl⟩ := List.getElem_of_mem hv
    obtain ⟨y, hy, rfl⟩ := List.getElem_of_mem hw
    rcases Nat.lt_trichotomy x y with h | h | h
    · exact hno y x (by omega) h hy ⟨fun e => k1 e.symm, k2.symm⟩
    · subst h; exact k1 rfl
    · exact hno x y (by omega) h hx ⟨k1, k2⟩
end
end Go.Proofs.Ytfdckjliinpjiaa

/- The walk of texts. -/
namespace Go.Proofs.Ytfdckjliinpjiaa
open Go AVL
attribute [-simp] AV.isAgg aappI aapp alen shp good comps szOK aslc List.reduceReplicate
set_option linter.unusedVariables false
set_option linter.unusedSimpArgs false
set_option maxRecDepth 20000

section
variable {A B C D : Heap} {K Kp : AV → Heap → Prop} {P : Program}
structure TS where
  m : Nat
  x : Nat
  t : List Nat
  q : List (List Nat)
  pre : List (List Nat)
structure TxI (Ch : List (List Nat)) (Cl : Option (List Nat × List (List Nat))) (g2 : Nat) (c2 : List AV) (S : TS) (env : AEnv) (E : Heap) : Prop where
  ch : S.pre ++ chain S.m S.x S.t S.q = Ch
  cl : climb S.m S.x (dig S.t) S.q = Cl
  ok : AdL S.q
  tb : Bytes S.t
  tl : S.t.length ≤ 90200
  ql : S.q.length ≤ 100000
  m2 : S.pre.length + S.m ≤ 1024
  lt : S.x < S.m
  e2 : env 2 = .ptr g2 0
  e7 : env 7 = .int .i64 S.x
  e8 : env 8 = .int .i64 S.m
  e9 : env 9 = .dsl 32 (ads S.q)
  ex : ∃ vs X, X g2 = some (.var 82 c2) ∧ SlR 22 1 (env 6) vs X E ∧ All2 (RsV T_uint8 .u8 X) vs (S.pre ++ [S.t]) ∧ RsV T_uint8 .u8 X (env 5) S.t
theorem SlS_RsV {v : AV} {l : List Nat} (h : SlS T_uint8 .u8 v (ints l) A C) (hl : 0 < l.length) : RsV T_uint8 .u8 C v l := by
  obtain ⟨g, h1, _, h3⟩ := h.pos (by simpa using hl)
  exact ⟨g, by simpa using h1, h3⟩
theorem sim_texts {n a : Nat} {p : List (List Nat)} {b : List Nat} (hn : n ≤ 1024) (ha : a < n) (hp : AdL p) (hpl : p.length ≤ 100000) (hb : Bytes b) (hbl : b.length ≤ 90000)
    (hk : ∀ r vs C, RowAt 22 1 r vs C → All2 (RsV T_uint8 .u8 C) vs (txP n a b p) → K r C) :
    SimX Try.prog F_law31_texts [prf a n (.dsl 32 (ads p)), .isl .u8 (ints b)] H0 (outK K Kp) := by
  refine j_law31_texts (by simp) ?_
  simp -implicitDefEqProofs [a_law31_texts, q_law31_texts_0, q_law31_texts_1, prf]
  intro g2
  refine sim_LeafText (by omega) hbl (.isl b) fun v5 C5 hv5 => ?_
  have hs5 := hv5.scl
  have c2 := hv5.sub g2 _ set_eq'
  have hR5 := SlS_RsV hv5 (by simp [lefT, lefW])
  simp -implicitDefEqProofs [q_law31_texts_2, hs5.size, hs5.shp, hs5.agg, hs5.good, hs5.comps, hs5.st]
  intro g6 h6
  have s6 := sub_none (c := .row 22 1 [v5]) h6
  simp -implicitDefEqProofs [q_law31_texts_3, s6 _ _ c2]
  refine X_lp (TxI (chain n a (lefT a b) p) (climb n a (dig (lefT a b)) p) g2 [.int .i64 a, .int .i64 n, .dsl 32 (ads p)]) (fun S => S.m) ⟨n, a, lefT a b, p, []⟩
    ⟨by simp, rfl, hp, lefT_bytes hb, by simp [lefT, lefW]; omega, hpl, by simpa using hn, ha, by simp, by simp, by simp, by simp, [v5], C5, c2, by simpa using SlR.one (m := [v5]) h6 rfl, ⟨hR5, trivial⟩, by simpa using hR5⟩ ?_
  clear hv5 hs5 c2 hR5 h6 s6
  rintro ⟨m, x, t, q, pre⟩ env E hI
  have hch := hI.ch
  have hcl := hI.cl
  have hq := hI.ok
  have htb := hI.tb
  have htl := hI.tl
  have hql := hI.ql
  have hm2 := hI.m2
  have hlt := hI.lt
  have e2 := hI.e2
  have e7 := hI.e7
  have e8 := hI.e8
  have e9 := hI.e9
  obtain ⟨vs, X, x2, hv, hall, h5⟩ := hI.ex
  simp only at hch hcl hq htb htl hql hm2 hlt e7 e8 e9 hall h5
  obtain ⟨v6, e6⟩ : ∃ v, env 6 = v := ⟨_, rfl⟩
  obtain ⟨v5, e5⟩ : ∃ v, env 5 = v := ⟨_, rfl⟩
  rw [e6] at hv
  rw [e5] at h5
  have hs := hv.scl
  have hs5 := h5.scl
  have c2 := hv.sub _ _ x2
  have hvl := hall.len
  simp only [List.length_append, List.length_singleton] at hvl
  by_cases hm : 1 < m
  · have hm' : (1 : Int) < m := by omega
    have hxo := xor1_lt (i := x) (by omega)
    have hcm := climb_more (i := x) (a := dig t) (p := q) (show 2 ≤ m by omega)
    have hcc := chain_more (i := x) (t := t) (p := q) (show 2 ≤ m by omega)
    have hdv : (x : Int).tdiv 2 = (x : Int) / 2 := Int.tdiv_eq_ediv_of_nonneg (by omega)
    have wdv : IntKind.i64.wrap ((x : Int) / 2) = (x : Int) / 2 := wrap_i64 (by omega)
    have hdv2 : ((m : Int) + 1).tdiv 2 = ((m : Int) + 1) / 2 := Int.tdiv_eq_ediv_of_nonneg (by omega)
    have wdv2 : IntKind.i64.wrap (((m : Int) + 1) / 2) = ((m : Int) + 1) / 2 := wrap_i64 (by omega)
    have wm1 : IntKind.i64.wrap ((m : Int) + 1) = (m : Int) + 1 := wrap_i64 (by omega)
    have hq0 : (0 : Int) ≤ q.length := by omega
    have tail : ∀ (env : AEnv) (E : Heap) (vs : List AV) (X : Heap) (t2 : List Nat) (q2 pre2 : List (List Nat)), pre2 ++ chain ((m + 1) / 2) (x / 2) t2 q2 = chain n a (lefT a b) p → climb ((m + 1) / 2) (x / 2) (dig t2) q2 = climb n a (dig (lefT a b)) p →
        AdL q2 → Bytes t2 → t2.length ≤ 90200 → q2.length ≤ 100000 → pre2.length + (m + 1) / 2 ≤ 1024 → env 2 = .ptr g2 0 → env 7 = .int .i64 x → env 8 = .int .i64 m → env 9 = .dsl 32 (ads q2) → X g2 = some (.var 82 [.int .i64 a, .int .i64 n, .dsl 32 (ads p)]) →
        SlR 22 1 (env 6) vs X E → All2 (RsV T_uint8 .u8 X) vs (pre2 ++ [t2]) → RsV T_uint8 .u8 X (env 5) t2 →
        XO Try.prog (lp Try.prog (inl [.tmp 4] K Kp) (Kt.blk 0 (Kt.thn ((ACode.regionD q_law31_texts_15).seq ACode.ret) Kt.done)) (TxI (chain n a (lefT a b) p) (climb n a (dig (lefT a b)) p) g2 [.int .i64 a, .int .i64 n, .dsl 32 (ads p)]) (fun S => S.m) ⟨m, x, t, q, pre⟩) q_law31_texts_14 (Kt.blk 1 Kt.done) env E := by
      intro env E vs X t2 q2 pre2 k1 k2 k3 k4 k5 k6 k7 e2 e7 e8 e9 x2 k8 k9 k10
      simp -implicitDefEqProofs [q_law31_texts_14, e7, e8, hdv, wdv, hdv2, wdv2, wm1]
      exact lp_next (⟨(m + 1) / 2, x / 2, t2, q2, pre2⟩ : TS) ⟨k1, k2, k3, k4, k5, k6, k7, by simp only; omega, by simp [e2], by simp, by simp, by simp [e9], vs, X, x2, by simpa using k8, k9, by simpa using k10⟩ (by simp only; omega)
    simp -implicitDefEqProofs [q_law31_texts_L15, q_law31_texts_4, q_law31_texts_5, e7, e8, e9, hm, hm', hxo, hq0]
    refine ⟨fun hx => ?_, fun hx => ?_⟩
    · rw [if_pos hx] at hcm hcc
      cases q with
      | nil =>
        simp only at hcm hcc
        rw [hcm] at hcl
        rw [hcc] at hch
        have htx : txP n a b p = pre ++ [t] := by unfold txP; rw [← hcl, ← hch]; simp
        simp -implicitDefEqProofs [q_law31_texts_6, q_law31_texts_7, e6, e9, ads, hs.size, hs.shp, hs.agg, hs.good, hs.comps, hs.st, outOf]
        exact hk v6 vs E hv.rowAt (by rw [htx]; exact hall.imp fun v l h => h.mono hv.sub)
      | cons d r =>
        simp only at hcm hcc
        rw [hcm] at hcl
        rw [hcc] at hch
        have hd := hq d (by simp)
        have hd2 := hd.2
        have hrm : (x : Int).tmod 2 = (x : Int) % 2 := Int.tmod_eq_emod_of_nonneg (by omega)
        have ea : ads (d :: r) = .iarr .u8 32 (ints d) :: ads r := rfl
        have hr0 : ¬ ((r.length : Int) + 1 = 0) := by omega
        have htk : List.take r.length (ads r) = ads r := List.take_of_length_le (by simp)
        have l32 := dig_length t
        have h5E := h5.mono hv.sub
        have hv9 := hv
        simp -implicitDefEqProofs [q_law31_texts_6, q_law31_texts_8, e5, e9, ea, hr0, hs5.size, hs5.shp, hs5.agg, hs5.good, hs5.comps, hs5.st]
        refine (w_ref03_Sum htb (by omega)).call (.cons h5E.vw hs5.agg .nil) rfl ?_
        simp -implicitDefEqProofs [l32]
        intro g10 h10
        have s10 := sub_none (c := .var 23 [.iarr .u8 32 (ints (dig t))]) h10
        by_cases hx2 : x % 2 = 0
        · have hx2' : (x : Int) % 2 = 0 := by omega
          rw [if_pos hx2] at hcl hch
          simp -implicitDefEqProofs [q_law31_texts_9, q_law31_texts_10, e7, e9, hrm, hx2, hx2', ea, hd2, l32]
          refine sim_NodeText l32 hd2 fun vN CN hvN => ?_
          have hsN := hvN.scl
          have hRN := SlS_RsV hvN (by simp [nodT, l32, hd2])
          simp -implicitDefEqProofs [q_law31_texts_12, e6, e9, ea, hsN.size, hsN.shp, hsN.agg, hsN.good, hsN.comps, hsN.st, hs.size, hs.shp, hs.agg, hs.good, hs.comps, hs.st]
          intro g55 h55
          have hvC := (hv.mono s10).mono hvN.sub
          obtain ⟨X', q1, q2, q3, q4, q5⟩ := hvC.top
          have hRNX : RsV T_uint8 .u8 X' vN (nodT (dig t) d) := by
            obtain ⟨g, k1, k2⟩ := hRN
            exact ⟨g, k1, q4 _ _ k2 (hvC.ne k2 (by intro l; simp))⟩
          refine q3.appS (ys := [vN]) (sub_none h55) (src_row set_eq' rfl) (by simp [AV.sts, hsN.st]) (by simp; omega) fun g' n' C2 hn' hv2 => ?_
          simp -implicitDefEqProofs [q_law31_texts_13, e9, ea, aslc, szOK]
          refine ⟨by omega, tail _ C2 (vs ++ [vN]) X' (nodT (dig t) d) r (pre ++ [t]) (by simpa using hch) hcl (fun y hy => hq y (by simp [hy])) ?_ (by simp [nodT, l32, hd2]) (by simp at hql; omega) (by simp; omega) (by simp [e2]) (by simp [e7]) (by simp [e8]) (by simp [htk]) (q1 _ _ x2) (by simpa using hv2) ((hall.imp fun v l h => h.mono q1).app ⟨hRNX, trivial⟩) (by simpa using hRNX)⟩
          exact nodT_bytes (dig_bytes _) hd.1
        · have hx2' : ¬ (x : Int) % 2 = 0 := by omega
          rw [if_neg hx2] at hcl hch
          simp -implicitDefEqProofs [q_law31_texts_9, q_law31_texts_11, e7, e9, hrm, hx2, hx2', ea, hd2, l32]
          refine sim_NodeText hd2 l32 fun vN CN hvN => ?_
          have hsN := hvN.scl
          have hRN := SlS_RsV hvN (by simp [nodT, l32, hd2])
          simp -implicitDefEqProofs [q_law31_texts_12, e6, e9, ea, hsN.size, hsN.shp, hsN.agg, hsN.good, hsN.comps, hsN.st, hs.size, hs.shp, hs.agg, hs.good, hs.comps, hs.st]
          intro g55 h55
          have hvC := (hv.mono s10).mono hvN.sub
          obtain ⟨X', q1, q2, q3, q4, q5⟩ := hvC.top
          have hRNX : RsV T_uint8 .u8 X' vN (nodT d (dig t)) := by
            obtain ⟨g, k1, k2⟩ := hRN
            exact ⟨g, k1, q4 _ _ k2 (hvC.ne k2 (by intro l; simp))⟩
          refine q3.appS (ys := [vN]) (sub_none h55) (src_row set_eq' rfl) (by simp [AV.sts, hsN.st]) (by simp; omega) fun g' n' C2 hn' hv2 => ?_
          simp -implicitDefEqProofs [q_law31_texts_13, e9, ea, aslc, szOK]
          refine ⟨by omega, tail _ C2 (vs ++ [vN]) X' (nodT d (dig t)) r (pre ++ [t]) (by simpa using hch) hcl (fun y hy => hq y (by simp [hy])) ?_ (by simp [nodT, l32, hd2]) (by simp at hql; omega) (by simp; omega) (by simp [e2]) (by simp [e7]) (by simp [e8]) (by simp [htk]) (q1 _ _ x2) (by simpa using hv2) ((hall.imp fun v l h => h.mono q1).app ⟨hRNX, trivial⟩) (by simpa using hRNX)⟩
          exact nodT_bytes hd.1 (dig_bytes _)
    · rw [if_neg (by omega)] at hcm hcc
      rw [hcm] at hcl
      rw [hcc] at hch
      exact tail _ E vs X t q pre hch hcl hq htb htl hql (by omega) (by simp [e2]) (by simp [e7]) (by simp [e8]) (by simp [e9]) x2 (by simpa [e6] using hv) hall (by simpa [e5] using h5)
  · have hm1 : m = 1 := by omega
    subst hm1
    rw [climb_one (by omega)] at hcl
    rw [chain_one (by omega)] at hch
    simp -implicitDefEqProofs [q_law31_texts_L15, q_law31_texts_4, q_law31_texts_15, e2, e5, e6, e7, e8, e9, c2, hs5.size, hs5.shp, hs5.agg, hs5.good, hs5.comps, hs5.st]
    have h5E := h5.mono hv.sub
    have l32 := dig_length t
    refine (w_ref03_Sum htb (by omega)).call (.cons h5E.vw hs5.agg .nil) rfl ?_
    simp -implicitDefEqProofs [l32, c2, Sub_refl]
    refine sim_RootText (by omega) l32 fun v9 C9 hv9 => ?_
    have hs9 := hv9.scl
    have hR9 := SlS_RsV hv9 (by simp [rotT, rotW])
    simp -implicitDefEqProofs [hs9.size, hs9.shp, hs9.agg, hs9.good, hs9.comps, hs9.st, hs.size, hs.shp, hs.agg, hs.good, hs.comps, hs.st]
    intro g70 h70
    have hvC := hv.mono hv9.sub
    obtain ⟨X', q1, q2, q3, q4, q5⟩ := hvC.top
    have hR9X : RsV T_uint8 .u8 X' v9 (rotT n (dig t)) := by
      obtain ⟨g, k1, k2⟩ := hR9
      exact ⟨g, k1, q4 _ _ k2 (hvC.ne k2 (by intro l; simp))⟩
    refine q3.appS (ys := [v9]) (sub_none h70) (src_row set_eq' rfl) (by simp [AV.sts, hs9.st]) (by simp; omega) fun g' n' C2 hn' hv2 => ?_
    have htx : txP n a b p = (pre ++ [t]) ++ [rotT n (dig t)] := by unfold txP; rw [← hcl, ← hch]
    simp -implicitDefEqProofs [outOf]
    exact hk _ _ C2 hv2.rowAt (by rw [htx]; exact ((hall.imp fun v l h => (h.mono q1).mono hv2.sub).app ⟨hR9X.mono hv2.sub, trivial⟩))
end
end Go.Proofs.Ytfdckjliinpjiaa

/- The walk of TreeTells. -/
namespace Go.Proofs.Ytfdckjliinpjiaa
open Go AVL
attribute [-simp] AV.isAgg aappI aapp alen shp good comps szOK aslc List.reduceReplicate
set_option linter.unusedVariables false
set_option linter.unusedSimpArgs false
set_option maxRecDepth 20000

section
variable {A B C D : Heap} {K Kp : AV → Heap → Prop} {P : Program}
theorem rsvs_noF : ∀ {vs : List AV} {Ts : List (List Nat)}, All2 (RsV T_uint8 .u8 B) vs Ts → AV.noFs vs = true
  | [], [], _ => rfl
  | v :: vs, t :: ts, h => by
    obtain ⟨⟨g, rfl, _⟩, h2⟩ := h
    have := rsvs_noF h2
    simp [AV.noFs, AV.noF, this]
  | [], _ :: _, h => h.elim
  | _ :: _, [], h => h.elim
theorem texts_call {n a : Nat} {p : List (List Nat)} {b : List Nat} (hn : n ≤ 1024) (ha : a < n) (hp : AdL p) (hpl : p.length ≤ 100000) (hb : Bytes b) (hbl : b.length ≤ 90000) {x y : AV} (hx : Vw A x (prf a n (.dsl 32 (ads p)))) (hxa : x.isAgg = true) (hy : Vw A y (.isl .u8 (ints b))) (hya : y.isAgg = false)
    (hk : ∀ r vs X C, A.Sub X → SlR 22 1 r vs X C → All2 (RsV T_uint8 .u8 X) vs (txP n a b p) → K r C) :
    SimX Try.prog F_law31_texts [x, y] A (outK K Kp) := by
  refine SimX.alone (sim_texts hn ha hp hpl hb hbl (K := fun r C => ∃ vs, RowAt 22 1 r vs C ∧ All2 (RsV T_uint8 .u8 C) vs (txP n a b p)) (Kp := fun _ _ => False) fun r vs C h1 h2 => ⟨vs, h1, h2⟩) (.cons hx hxa (.cons hy hya .nil)) ?_ ?_
  · intro o B ho
    cases o with
    | ret v => obtain ⟨vs, h1, _⟩ := ho; exact rowAt_noF h1
    | pan v => exact ho.elim
  · intro o B C ho hs hj
    cases o with
    | ret v =>
      obtain ⟨vs, h1, h2⟩ := ho
      have h2C : All2 (RsV T_uint8 .u8 C) vs (txP n a b p) := h2.imp fun v l ⟨g, k1, k2⟩ => ⟨g, k1, (hj g _ k2 rfl).2⟩
      rcases h1 with ⟨rfl, rfl⟩ | ⟨g, rfl, hg⟩
      · exact hk .nilS [] C C hs (SlR.nil (Sub_refl C)) h2C
      · obtain ⟨k1, k2⟩ := hj g _ hg (rsvs_noF h2)
        refine hk _ vs (C.del g) C (fun x c hx => ?_) ⟨del_sub, .inr ⟨g, rfl, by simp [del_app], k2⟩⟩ (h2C.imp fun v l ⟨x, q1, q2⟩ => ⟨x, q1, ?_⟩)
        · rw [del_app, if_neg (fresh_ne hx k1)]; exact hs _ _ hx
        · rw [del_app, if_neg]; exact q2
          rintro rfl; rw [k2] at q2; cases q2
    | pan v => exact ho.elim
theorem chain_ok : ∀ (n i : Nat) (t : List Nat) (p : List (List Nat)), Bytes t → t.length ≤ 90000 → AdL p → ∀ u ∈ chain n i t p, Bytes u ∧ u.length ≤ 90000 := by
  intro n
  induction n using Nat.strongRecOn with
  | ind n ih =>
  intro i t p ht hl hp u hu
  by_cases h2 : 2 ≤ n
  · rw [chain_more h2] at hu
    by_cases hx : i ^^^ 1 < n
    · rw [if_pos hx] at hu
      cases p with
      | nil => simp at hu; subst hu; exact ⟨ht, hl⟩
      | cons d r =>
        simp only at hu
        rcases List.mem_cons.1 hu with rfl | hu
        · exact ⟨ht, hl⟩
        · have hd := hp d (by simp)
          have hdl := dig_length t
          refine ih ((n + 1) / 2) (by omega) (i / 2) _ r ?_ ?_ (fun y hy => hp y (by simp [hy])) u hu
          · split
            · exact nodT_bytes (dig_bytes _) hd.1
            · exact nodT_bytes hd.1 (dig_bytes _)
          · split <;> simp [nodT, hdl, hd.2]
    · rw [if_neg hx] at hu
      exact ih ((n + 1) / 2) (by omega) (i / 2) t p ht hl hp u hu
  · rw [chain_one (by omega)] at hu
    simp at hu; subst hu; exact ⟨ht, hl⟩
theorem chain_len : ∀ (n i : Nat) (t : List Nat) (p : List (List Nat)), (chain n i t p).length ≤ dep n + 1 := by
  intro n
  induction n using Nat.strongRecOn with
  | ind n ih =>
  intro i t p
  by_cases h2 : 2 ≤ n
  · rw [chain_more h2, dep_more h2]
    by_cases hx : i ^^^ 1 < n
    · rw [if_pos hx]
      cases p with
      | nil => simp
      | cons d r => have := ih ((n + 1) / 2) (by omega) (i / 2) (if i % 2 = 0 then nodT (dig t) d else nodT d (dig t)) r; simp only [List.length_cons]; omega
    · rw [if_neg hx]
      have := ih ((n + 1) / 2) (by omega) (i / 2) t p
      omega
  · rw [chain_one (by omega)]; simp
theorem climb_ok : ∀ (n i : Nat) (h : List Nat) (p : List (List Nat)) (x : List Nat) (r : List (List Nat)), Bytes h → h.length = 32 → climb n i h p = some (x, r) → Bytes x ∧ x.length = 32 := by
  intro n
  induction n using Nat.strongRecOn with
  | ind n ih =>
  intro i h p x r hb hl hc
  by_cases h2 : 2 ≤ n
  · rw [climb_more h2] at hc
    by_cases hx : i ^^^ 1 < n
    · rw [if_pos hx] at hc
      cases p with
      | nil => cases hc
      | cons d q =>
        simp only at hc
        refine ih ((n + 1) / 2) (by omega) (i / 2) _ q x r ?_ ?_ hc
        · split <;> exact dig_bytes _
        · split <;> exact nodS_length _ _
    · rw [if_neg hx] at hc
      exact ih ((n + 1) / 2) (by omega) (i / 2) h p x r hb hl hc
  · rw [climb_one (by omega)] at hc
    injection hc with hc; injection hc with h1 h2; subst h1; exact ⟨hb, hl⟩
theorem txP_ok {n a : Nat} {b : List Nat} {p : List (List Nat)} (hn : n ≤ 1024) (hb : Bytes b) (hbl : b.length ≤ 200) (hp : AdL p) : (∀ t ∈ txP n a b p, Bytes t ∧ t.length ≤ 90000) ∧ (txP n a b p).length ≤ 20 := by
  have h1 := chain_ok n a (lefT a b) p (lefT_bytes hb) (by simp [lefT, lefW]; omega) hp
  have h2 := chain_len n a (lefT a b) p
  have h3 := dep_bound 10 n (by omega)
  unfold txP
  cases hc : climb n a (dig (lefT a b)) p with
  | none => simp only [List.append_nil]; exact ⟨h1, by omega⟩
  | some xr =>
    obtain ⟨x, r⟩ := xr
    obtain ⟨k1, k2⟩ := climb_ok n a _ p x r (dig_bytes _) (dig_length _) hc
    simp only
    refine ⟨fun t ht => ?_, by simp; omega⟩
    rcases List.mem_append.1 ht with h | h
    · exact h1 t h
    · simp at h; subst h; exact ⟨rotT_bytes k1, by simp [rotT, rotW, k2]⟩
end
end Go.Proofs.Ytfdckjliinpjiaa

/- The walk of TreeTells. -/
namespace Go.Proofs.Ytfdckjliinpjiaa
open Go AVL
attribute [-simp] AV.isAgg aappI aapp alen shp good comps szOK aslc List.reduceReplicate
set_option linter.unusedVariables false
set_option linter.unusedSimpArgs false
set_option maxRecDepth 20000

section
variable {A B C D : Heap} {K Kp : AV → Heap → Prop} {P : Program}
theorem ads_in : ∀ {l : List AV}, (∀ x ∈ l, ATy.has (.iarr .u8 32) x) → ∃ L, l = ads L ∧ AdL L
  | [], _ => ⟨[], rfl, fun s hs => by cases hs⟩
  | v :: l, h => by
    obtain ⟨L, h1, h2⟩ := ads_in (l := l) fun x hx => h x (by simp [hx])
    have h3 := h v (by simp)
    unfold ATy.has at h3
    obtain ⟨s, rfl, hl, hw⟩ := h3
    obtain ⟨s, rfl, hb⟩ := bytes_in hw
    refine ⟨s :: L, by rw [h1]; rfl, fun t ht => ?_⟩
    rcases List.mem_cons.1 ht with rfl | ht
    · exact ⟨hb, by simpa using hl⟩
    · exact h2 t ht
theorem w_TreeTells {L : List (List Nat)} {a n : Int} {p : List (List Nat)} {b : List Nat} (hL : ∀ b ∈ L, Bytes b) (hl : L.length < 2 ^ 63) (ha : -2 ^ 63 ≤ a ∧ a < 2 ^ 63) (hn : -2 ^ 63 ≤ n ∧ n < 2 ^ 63) (hp : AdL p) (hpl : p.length < 2 ^ 63) (hb : Bytes b) (hbl : b.length < 2 ^ 63) :
    Gives Try.prog F_law31_TreeTells [.dsl 1 (txts L), prf a n (.dsl 32 (ads p)), .isl .u8 (ints b)] (.bool true) := by
  refine v_law31_TreeTells (by simp) ?_
  simp -implicitDefEqProofs [a_law31_TreeTells, q_law31_TreeTells_0, q_law31_TreeTells_1, prf]
  intro g4
  refine (w_law31_light hl).call (.cons (.refl _) rfl .nil) rfl ?_
  by_cases hlit : Lit L
  case neg =>
    have hd : decide (Lit L) = false := by simpa using hlit
    rw [hd]
    simp -implicitDefEqProofs [q_law31_TreeTells_2]
    refine w_law31_works.call .nil rfl ?_
    simp -implicitDefEqProofs [outOf]
  have hd : decide (Lit L) = true := by simpa using hlit
  have hT := hlit.ths hL
  have hl40 := hlit.1
  rw [hd]
  by_cases h0 : L.length = 0
  · have h0' : (L.length : Int) = 0 := by omega
    simp -implicitDefEqProofs [h0, h0', q_law31_TreeTells_2]
    refine w_law31_works.call .nil rfl ?_
    simp -implicitDefEqProofs [outOf]
  have h0' : ¬ (L.length : Int) = 0 := by omega
  have hne : ¬ L = [] := by rintro rfl; exact h0 rfl
  by_cases hb1 : 100 < b.length
  · have hb1' : (100 : Int) < b.length := by omega
    simp -implicitDefEqProofs [h0, h0', hne, hb1, hb1', q_law31_TreeTells_2]
    refine w_law31_works.call .nil rfl ?_
    simp -implicitDefEqProofs [outOf]
  have hb1' : ¬ (100 : Int) < b.length := by omega
  by_cases hp1 : 20 < p.length
  · have hp1' : (20 : Int) < p.length := by omega
    simp -implicitDefEqProofs [h0, h0', hne, hb1, hb1', hp1, hp1', q_law31_TreeTells_2]
    refine w_law31_works.call .nil rfl ?_
    simp -implicitDefEqProofs [outOf]
  have hp1' : ¬ (20 : Int) < p.length := by omega
  have hc : chkL L.length = 0 := by unfold chkL; rw [if_neg h0, if_neg (by omega)]
  have hrl := rootR_len L
  simp -implicitDefEqProofs [h0, h0', hne, hb1, hb1', hp1, hp1', q_law31_TreeTells_3]
  refine (w_tree_Root hT (by omega)).call (.cons (.refl _) rfl .nil) rfl ?_
  rw [hc]
  simp -implicitDefEqProofs [adV, hrl]
  intro g7 n7 n7'
  simp -implicitDefEqProofs [q_law31_TreeTells_4, n7, n7', hrl]
  refine (w_tree_Verify (r := rootR L) (a := a) (n := n) (p := p) (b := b) hrl ha hn hp (by omega) hb (by omega)).call (.cons (.refl _) rfl (.cons (.refl _) rfl (.cons (.refl _) rfl .nil))) rfl ?_
  cases hV : (clmB a n p b && decide (clmA a n p b = rootR L)) with
  | false =>
    simp -implicitDefEqProofs [q_law31_TreeTells_5]
    refine w_law31_works.call .nil rfl ?_
    simp -implicitDefEqProofs [outOf]
  | true =>
  simp only [Bool.and_eq_true, decide_eq_true_eq] at hV
  obtain ⟨hB, hA⟩ := hV
  obtain ⟨x, hbad, hI⟩ : ∃ x, ¬ (n < 1 ∨ 1024 < n ∨ a < 0 ∨ n ≤ a) ∧ clmI a n p b = some (x, []) := by
    unfold clmB at hB
    cases hc : clmI a n p b with
    | none => rw [hc] at hB; cases hB
    | some xr =>
      obtain ⟨x, r⟩ := xr
      rw [hc] at hB
      simp at hB; subst hB
      refine ⟨x, fun hbad => ?_, rfl⟩
      unfold clmI at hc; rw [if_pos hbad] at hc; cases hc
  obtain ⟨n, rfl⟩ : ∃ m : Nat, n = m := ⟨n.toNat, by omega⟩
  obtain ⟨a, rfl⟩ : ∃ m : Nat, a = m := ⟨a.toNat, by omega⟩
  have hcl : climb n a (dig (lefT a b)) p = some (x, []) := by unfold clmI at hI; rw [if_neg hbad] at hI; simpa using hI
  have hrx : dig (rotT n x) = rootR L := by unfold clmA at hA; rw [hI] at hA; simpa using hA
  have a0 : ¬ (a : Int) < 0 := by omega
  have han : a < n := by omega
  have hn1 : n ≤ 1024 := by omega
  obtain ⟨tx1, tx2⟩ := txP_ok (a := a) (p := p) hn1 hb (by omega) hp
  by_cases hgood : n = L.length ∧ ∃ h : a < L.length, L[a] = b
  · obtain ⟨rfl, hal, rfl⟩ := hgood
    have hal' : (a : Int) < L.length := by omega
    simp -implicitDefEqProofs [q_law31_TreeTells_6, q_law31_TreeTells_7, n7, n7', a0, hal, hal']
    refine w_law31_works.call .nil rfl ?_
    simp -implicitDefEqProofs [outOf]
  obtain ⟨a', ha', haa, hsel⟩ : ∃ a' : Nat, a' < L.length ∧ (a < L.length → a' = a) ∧ (¬ a < L.length → a' = 0) := by
    by_cases h : a < L.length
    · exact ⟨a, h, fun _ => rfl, fun k => absurd h k⟩
    · exact ⟨0, by omega, fun k => absurd k h, fun _ => rfl⟩
  have hb' := hT L[a'] (List.getElem_mem ha')
  have hb'2 := hlit.2 L[a'] (List.getElem_mem ha')
  have hCla := tells (b := b) hc (fun y hy => (hp y hy).2) hn1 han hcl hrx a' ha' haa (fun ⟨k1, k2, k3⟩ => hgood ⟨k1, k3, by
    have := haa k3; subst this
    rw [List.getElem?_eq_getElem k3] at k2
    exact Option.some.inj k2⟩)
  have hpo := pathU_ok L.length (lvs 0 L) a' (by simp) (lvs_ok 0 L)
  have hp10 := pathU_len10 (M := lvs 0 L) (i := a') (by simp; omega)
  obtain ⟨ty1, ty2⟩ := txP_ok (n := L.length) (a := a') (b := L[a']) (p := pathU (lvs 0 L) a') (by omega) hb'.1 (by omega) hpo
  have hC0 : prvC L (a' : Int) = 0 := by unfold prvC; rw [if_neg (by simp [hc]), if_neg (by omega)]
  have hPA : prvA L (a' : Int) = a' := by unfold prvA; rw [if_pos hC0]
  have hPO : prvO L (a' : Int) = L.length := by unfold prvO; rw [if_pos hC0]
  have hPP : prvP L (a' : Int) = pathU (lvs 0 L) a' := by unfold prvP; rw [if_pos hC0]; rfl
  have rest : ∀ (env : AEnv) (E : Heap), env 0 = .dsl 1 (txts L) → env 2 = .isl .u8 (ints b) → env 4 = .ptr g4 0 → E g4 = some (.var 82 [.int .i64 a, .int .i64 n, .dsl 32 (ads p)]) →
      XO Try.prog (fin [.tmp 6] (.bool true)) q_law31_TreeTells_8 (Kt.thn (((ACode.region q_law31_TreeTells_9).seq (ACode.cond (.t 90) ((ACode.region q_law31_TreeTells_10).seq ((ACode.regionD q_law31_TreeTells_11).seq ACode.ret)) ACode.skip)).seq ((ACode.region q_law31_TreeTells_12).seq ((ACode.regionD q_law31_TreeTells_13).seq ACode.ret))) Kt.done) env E := by
    intro env E e0 e2 e4 c4
    simp -implicitDefEqProofs [q_law31_TreeTells_8, e0, e2, e4, c4]
    refine texts_call (b := b) hn1 han hp (by omega) hb (by omega) (.refl _) rfl (.refl _) rfl fun r9 vs9 X9 C9 hs9 hr9 hall9 => ?_
    have hsr := hr9.scl
    replace c4 := hr9.sub _ _ (hs9 _ _ c4)
    by_cases hal : a < L.length
    · have hal' : (a : Int) < L.length := by omega
      obtain rfl : a' = a := haa hal
      have hge : ¬ L.length ≤ a' := by omega
      have hge' : ¬ (L.length : Int) ≤ a' := by omega
      simp -implicitDefEqProofs [q_law31_TreeTells_9, q_law31_TreeTells_12, e0, e2, e4, c4, a0, hal, hal', hge, hge', hsr.size, hsr.shp, hsr.agg, hsr.good, hsr.comps, hsr.st]
      refine Prove_call hT (by omega) (.refl _) rfl (at' := ((a' : Nat) : Int)) (by omega) (by omega) fun q C10 hq => ?_
      rw [hPP] at hq
      rw [hPA, hPO, hC0]
      have hqs := hq.scl
      simp -implicitDefEqProofs [prf, hqs.size, hqs.shp, hqs.agg, hqs.good, hqs.comps, hqs.st]
      intro g12 h12
      have s13 := sub_none (c := .var 82 [.int .i64 (a' : Int), .int .i64 (L.length : Int), q]) h12
      obtain ⟨Y, hY⟩ : ∃ Y, C10.set g12 (.var 82 [.int .i64 (a' : Int), .int .i64 (L.length : Int), q]) = Y := ⟨_, rfl⟩
      have y12 : Y g12 = some (.var 82 [.int .i64 (a' : Int), .int .i64 (L.length : Int), q]) := by rw [← hY, set_eq']
      have hqr := (hq.mono s13).rowAt
      rw [hY] at s13 hqr ⊢
      clear hY
      replace c4 := s13 _ _ (hq.sub _ _ c4)
      have hr9Y := (hr9.mono hq.sub).mono s13
      simp -implicitDefEqProofs [q_law31_TreeTells_13, e0, e2, e4, c4, y12, hal, hal', hge, hge', a0, hqs.size, hqs.shp, hqs.agg, hqs.good, hqs.comps, hqs.st, hsr.size, hsr.shp, hsr.agg, hsr.good, hsr.comps, hsr.st]
      refine texts_call (n := L.length) (a := a') (p := pathU (lvs 0 L) a') (b := L[a']) (by omega) ha' hpo (by omega) hb'.1 (by omega) (prf_vw hqr) rfl (.refl _) rfl fun r2 vs2 X2 C2 hs2 hr2 hall2 => ?_
      have hr2s := hr2.scl
      simp -implicitDefEqProofs [hr2s.size, hr2s.shp, hr2s.agg, hr2s.good, hr2s.comps, hr2s.st, hsr.size, hsr.shp, hsr.agg, hsr.good, hsr.comps, hsr.st]
      have hr9C := hr9Y.mono (sub_tr hs2 hr2.sub)
      obtain ⟨X', q1, q2, q3, q4, q5⟩ := hr9C.top
      have e9l := hall9.len
      have e2l := hall2.len
      refine q3.appS (ys := vs2) (Sub_refl _) (hr2.src (Sub_refl _)) (sts_all (fun v l h => (RsV.scl h).st) hall2) (by omega) fun g' n' C3 hn' hv3 => ?_
      have hallf : All2 (RsV T_uint8 .u8 C3) (vs9 ++ vs2) (txP n a' b p ++ txP L.length a' L[a'] (pathU (lvs 0 L) a')) :=
        (hall9.imp fun v l h => (h.mono q1).mono hv3.sub).app (hall2.imp fun v l h => by
          obtain ⟨g, k1, k2⟩ := h.mono hr2.sub
          exact ⟨g, k1, hv3.sub _ _ (q4 _ _ k2 (hr9C.ne k2 (by intro l; simp)))⟩)
      obtain ⟨_, hrow, _, hnn⟩ := hv3.at
      have hvw : Vw C3 (.own g' 0 n') (.dsl 1 (txts (txP n a' b p ++ txP L.length a' L[a'] (pathU (lvs 0 L) a')))) :=
        .ownR (i := 0) hrow (by omega) (by rw [List.drop_zero, List.take_of_length_le (by omega)]; exact hallf.vws fun v l h => RsV.vw h)
      simp -implicitDefEqProofs
      refine (w_law31_clash (fun t ht => (List.mem_append.1 ht).elim (tx1 t) (ty1 t)) (by simp; omega) hCla).call (.cons hvw rfl .nil) rfl ?_
      simp -implicitDefEqProofs [outOf]
    · have hal' : ¬ (a : Int) < L.length := by omega
      obtain rfl : a' = 0 := hsel hal
      have hge : L.length ≤ a := by omega
      have hge' : (L.length : Int) ≤ a := by omega
      have ha0 : 0 < L.length := ha'
      have ha0' : (0 : Int) < L.length := by omega
      simp -implicitDefEqProofs [q_law31_TreeTells_9, q_law31_TreeTells_10, e0, e2, e4, c4, a0, hal, hal', hge, hge', hsr.size, hsr.shp, hsr.agg, hsr.good, hsr.comps, hsr.st]
      refine Prove_call hT (by omega) (.refl _) rfl (at' := 0) (by omega) (by omega) fun q C10 hq => ?_
      rw [show prvP L 0 = pathU (lvs 0 L) 0 from hPP] at hq
      rw [show prvA L 0 = 0 from hPA, show prvO L 0 = L.length from hPO, show prvC L 0 = 0 from hC0]
      have hqs := hq.scl
      simp -implicitDefEqProofs [prf, hqs.size, hqs.shp, hqs.agg, hqs.good, hqs.comps, hqs.st]
      intro g12 h12
      have s13 := sub_none (c := .var 82 [.int .i64 0, .int .i64 (L.length : Int), q]) h12
      obtain ⟨Y, hY⟩ : ∃ Y, C10.set g12 (.var 82 [.int .i64 0, .int .i64 (L.length : Int), q]) = Y := ⟨_, rfl⟩
      have y12 : Y g12 = some (.var 82 [.int .i64 0, .int .i64 (L.length : Int), q]) := by rw [← hY, set_eq']
      have hqr := (hq.mono s13).rowAt
      rw [hY] at s13 hqr ⊢
      clear hY
      replace c4 := s13 _ _ (hq.sub _ _ c4)
      have hr9Y := (hr9.mono hq.sub).mono s13
      simp -implicitDefEqProofs [q_law31_TreeTells_11, e0, e2, e4, c4, y12, ha0, ha0', hqs.size, hqs.shp, hqs.agg, hqs.good, hqs.comps, hqs.st, hsr.size, hsr.shp, hsr.agg, hsr.good, hsr.comps, hsr.st]
      refine texts_call (n := L.length) (a := 0) (p := pathU (lvs 0 L) 0) (b := L[0]) (by omega) ha' hpo (by omega) hb'.1 (by omega) (prf_vw hqr) rfl (.refl _) rfl fun r2 vs2 X2 C2 hs2 hr2 hall2 => ?_
      have hr2s := hr2.scl
      simp -implicitDefEqProofs [hr2s.size, hr2s.shp, hr2s.agg, hr2s.good, hr2s.comps, hr2s.st, hsr.size, hsr.shp, hsr.agg, hsr.good, hsr.comps, hsr.st]
      have hr9C := hr9Y.mono (sub_tr hs2 hr2.sub)
      obtain ⟨X', q1, q2, q3, q4, q5⟩ := hr9C.top
      have e9l := hall9.len
      have e2l := hall2.len
      refine q3.appS (ys := vs2) (Sub_refl _) (hr2.src (Sub_refl _)) (sts_all (fun v l h => (RsV.scl h).st) hall2) (by omega) fun g' n' C3 hn' hv3 => ?_
      have hallf : All2 (RsV T_uint8 .u8 C3) (vs9 ++ vs2) (txP n a b p ++ txP L.length 0 L[0] (pathU (lvs 0 L) 0)) :=
        (hall9.imp fun v l h => (h.mono q1).mono hv3.sub).app (hall2.imp fun v l h => by
          obtain ⟨g, k1, k2⟩ := h.mono hr2.sub
          exact ⟨g, k1, hv3.sub _ _ (q4 _ _ k2 (hr9C.ne k2 (by intro l; simp)))⟩)
      obtain ⟨_, hrow, _, hnn⟩ := hv3.at
      have hvw : Vw C3 (.own g' 0 n') (.dsl 1 (txts (txP n a b p ++ txP L.length 0 L[0] (pathU (lvs 0 L) 0)))) :=
        .ownR (i := 0) hrow (by omega) (by rw [List.drop_zero, List.take_of_length_le (by omega)]; exact hallf.vws fun v l h => RsV.vw h)
      simp -implicitDefEqProofs
      refine (w_law31_clash (fun t ht => (List.mem_append.1 ht).elim (tx1 t) (ty1 t)) (by simp; omega) hCla).call (.cons hvw rfl .nil) rfl ?_
      simp -implicitDefEqProofs [outOf]
  by_cases hnl : n = L.length
  · subst hnl
    have hal' : (a : Int) < L.length := by omega
    have hne2 : ¬ L[a] = b := fun h => hgood ⟨rfl, han, h⟩
    have hsd := strOf_dec (hL L[a] (List.getElem_mem han)) hb
    rw [decide_eq_false hne2] at hsd
    have hsd' : ¬ strOf (ints L[a]) = strOf (ints b) := by simpa using hsd
    simp -implicitDefEqProofs [q_law31_TreeTells_6, n7, n7', a0, han, hal', hsd']
    exact rest _ _ (by simp) (by simp) (by simp) (by simp [n7, n7'])
  · have hnl' : ¬ (n : Int) = L.length := by omega
    simp -implicitDefEqProofs [q_law31_TreeTells_6, n7, n7', a0, hnl, hnl']
    exact rest _ _ (by simp) (by simp) (by simp) (by simp [n7, n7'])
end
end Go.Proofs.Ytfdckjliinpjiaa
