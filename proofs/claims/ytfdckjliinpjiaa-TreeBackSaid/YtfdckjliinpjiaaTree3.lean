/- Texts of this claim, in order: Ym Yn Yo. -/
import Derived.Test.YtfdckjliinpjiaaTree2
import Derived.Test.YtfdckjliinpjiaaL4
/- The walk of the tree's law's works, light. -/
namespace Go.Proofs.Ytfdckjliinpjiaa
open Go AVL
attribute [-simp] AV.isAgg aappI aapp alen shp good comps szOK aslc List.reduceReplicate
set_option linter.unusedVariables false
set_option linter.unusedSimpArgs false
set_option maxRecDepth 20000

section
variable {A B C D : Heap} {K Kp : AV → Heap → Prop} {P : Program}
/-- Three things, made in memory. -/
def V3 (C : Heap) (x : AV) : Prop := ∃ g a b c, x = .own g 0 3 ∧ C g = some (.row 22 1 [.own a 0 1, .own b 0 1, .own c 0 1]) ∧ C a = some (.irow 5 .u8 [97]) ∧ C b = some (.irow 5 .u8 [98]) ∧ C c = some (.irow 5 .u8 [99])
theorem V3.mono {x : AV} (h : V3 B x) (hs : B.Sub C) : V3 C x := by
  obtain ⟨g, a, b, c, h1, h2, h3, h4, h5⟩ := h
  exact ⟨g, a, b, c, h1, hs _ _ h2, hs _ _ h3, hs _ _ h4, hs _ _ h5⟩
theorem V3.vw {x : AV} (h : V3 C x) : Vw C x (.dsl 1 (txts L3)) := by
  obtain ⟨g, a, b, c, rfl, h2, h3, h4, h5⟩ := h
  exact .ownR (i := 0) (n := 3) h2 (by simp) (.cons (vw_irow (l := ints [97]) h3 rfl) (.cons (vw_irow (l := ints [98]) h4 rfl) (.cons (vw_irow (l := ints [99]) h5 rfl) .nil)))
theorem V3.scl {x : AV} (h : V3 C x) : Scl x := by
  obtain ⟨g, a, b, c, rfl, _⟩ := h
  exact ⟨rfl, rfl, rfl, rfl, rfl, rfl, rfl⟩
theorem RowAt.vw {e : TypeId} {sz : Nat} {p : AV} {m : List AV} (h : RowAt e sz p m C) : Vw C p (.dsl sz m) := by
  rcases h with ⟨rfl, rfl⟩ | ⟨g, rfl, hg⟩
  · exact .nilD sz
  · exact vw_row hg rfl
theorem prf_vw {a n : Int} {p : AV} {m : List (List Nat)} (h : RowAt T_32_uint8 32 p (ads m) C) : Vw C (prf a n p) (prf a n (.dsl 32 (ads m))) :=
  .agg (.cons (.refl _) (.cons (.refl _) (.cons (RowAt.vw h) .nil)))
theorem w3N_ok : AdL [w3N] := fun a ha => by
  simp only [List.mem_cons, List.not_mem_nil, or_false] at ha; subst ha; exact ⟨dig_bytes _, dig_length _⟩
theorem w3R_len : w3R.length = 32 := dig_length _
theorem L3_chk : chkL L3.length = 0 := by decide
theorem prv32 : prvC L3 2 = 0 := by decide
theorem prv33 : prvC L3 3 = 2 := by decide
theorem w_law31_works : Gives Try.prog F_law31_works [] (.bool true) := by
  refine v_law31_works (by simp) ?_
  simp -implicitDefEqProofs [a_law31_works, q_law31_works_0, q_law31_works_1]
  intro ga gb a1 a2 gc b1 b2 b3 b4 g1 c1 c2 c3 c4 c5 c6
  obtain ⟨Y, hY⟩ : ∃ Y, ((((H0.set ga (.irow 5 .u8 [97])).set gb (.irow 5 .u8 [98])).set gc (.irow 5 .u8 [99])).set g1 (.row 22 1 [.own ga 0 1, .own gb 0 1, .own gc 0 1])) = Y := ⟨_, rfl⟩
  have hV : V3 Y (.own g1 0 3) := ⟨g1, ga, gb, gc, rfl, by rw [← hY, set_eq'], by rw [← hY, set_ne' c6, set_ne' b4, set_ne' a2, set_eq'], by rw [← hY, set_ne' c4, set_ne' b2, set_eq'], by rw [← hY, set_ne' c2, set_eq']⟩
  rw [hY]
  clear hY
  simp -implicitDefEqProofs [q_law31_works_2]
  refine (w_tree_Root L3_ths (by decide)).call (.cons hV.vw rfl .nil) rfl ?_
  rw [L3_root, L3_chk]
  simp -implicitDefEqProofs [adV, w3R_len]
  intro g2 h2
  obtain ⟨Y2, hY2⟩ : ∃ Y2, Y.set g2 (.var 23 [.iarr .u8 32 (ints w3R)]) = Y2 := ⟨_, rfl⟩
  have s2 : Y.Sub Y2 := by rw [← hY2]; exact sub_none h2
  have y2 : Y2 g2 = some (.var 23 [.iarr .u8 32 (ints w3R)]) := by rw [← hY2, set_eq']
  rw [hY2]
  replace hV := hV.mono s2
  clear hY2 s2
  simp -implicitDefEqProofs [q_law31_works_3]
  refine Prove_call L3_ths (by decide) hV.vw rfl (at' := 2) (by decide) (by decide) fun p3 C3 hp3 => ?_
  have hs3 := hp3.scl
  rw [prv32, show prvA L3 2 = 2 by decide, show prvO L3 2 = 3 by decide]
  rw [show prvP L3 2 = [w3N] by unfold prvP; rw [if_pos prv32]; exact L3_path] at hp3
  simp -implicitDefEqProofs [prf, hs3.size, hs3.shp, hs3.agg, hs3.good, hs3.comps, hs3.st]
  intro g4 h4
  obtain ⟨Y4, hY4⟩ : ∃ Y4, C3.set g4 (.var 82 [.int .i64 2, .int .i64 3, p3]) = Y4 := ⟨_, rfl⟩
  have s4 : C3.Sub Y4 := by rw [← hY4]; exact sub_none h4
  have y4 : Y4 g4 = some (.var 82 [.int .i64 2, .int .i64 3, p3]) := by rw [← hY4, set_eq']
  replace y2 := s4 _ _ (hp3.sub _ _ y2)
  replace hV := (hV.mono hp3.sub).mono s4
  have hr3 := (hp3.mono s4).rowAt
  rw [hY4]
  clear hY4 s4 hp3
  simp -implicitDefEqProofs [q_law31_works_4]
  refine Prove_call L3_ths (by decide) hV.vw rfl (at' := 3) (by decide) (by decide) fun p6 C6 hp6 => ?_
  have hs6 := hp6.scl
  rw [prv33, show prvA L3 3 = 0 by decide, show prvO L3 3 = 0 by decide]
  simp -implicitDefEqProofs [prf, hs6.size, hs6.shp, hs6.agg, hs6.good, hs6.comps, hs6.st]
  intro g6 h6
  have s6 := sub_tr hp6.sub (sub_none (c := .var 82 [.int .i64 0, .int .i64 0, p6]) h6)
  obtain ⟨Y6, hY6⟩ : ∃ Y6, C6.set g6 (.var 82 [.int .i64 0, .int .i64 0, p6]) = Y6 := ⟨_, rfl⟩
  rw [hY6] at s6 ⊢
  clear hY6 hp6
  replace y2 := s6 _ _ y2
  replace y4 := s6 _ _ y4
  replace hV := hV.mono s6
  replace hr3 := hr3.keep fun x l hx => s6 _ _ hx
  simp -implicitDefEqProofs [q_law31_works_5]
  refine (w_tree_Root (L := []) (fun b hb => by simp at hb) (by decide)).call (.cons (.nilD 1) rfl .nil) rfl ?_
  rw [show chkL ([] : List (List Nat)).length = 1 by decide, show rootR [] = zeroA by unfold rootR; rw [if_neg (by decide)]]
  simp -implicitDefEqProofs [adV, zeroA]
  intro g8 h8
  have s8 := sub_none (c := .var 23 [.iarr .u8 32 (ints (List.replicate 32 0))]) h8
  obtain ⟨Y8, hY8⟩ : ∃ Y8, Y6.set g8 (.var 23 [.iarr .u8 32 (ints (List.replicate 32 0))]) = Y8 := ⟨_, rfl⟩
  rw [hY8] at s8 ⊢
  clear hY8
  replace y2 := s8 _ _ y2
  replace y4 := s8 _ _ y4
  replace hV := hV.mono s8
  replace hr3 := hr3.keep fun x l hx => s8 _ _ hx
  simp -implicitDefEqProofs [q_law31_works_6]
  refine All_call L3_ths L3_chk hV.vw rfl fun r vs C10 s10 hr hall => ?_
  have hsr := hr.scl
  have hvl := hall.len
  replace y2 := s10 _ _ y2
  replace y4 := s10 _ _ y4
  replace hV := hV.mono s10
  replace hr3 := hr3.keep fun x l hx => s10 _ _ hx
  simp -implicitDefEqProofs [hsr.size, hsr.shp, hsr.agg, hsr.good, hsr.comps, hsr.st, q_law31_works_7, y4, hs3.size, hs3.shp, hs3.agg, hs3.good, hs3.comps, hs3.st]
  intro g47 h47
  have s47 := sub_none (c := .irow 5 .u8 [99]) h47
  have e47 : (C10.set g47 (.irow 5 .u8 [99])) g47 = some (.irow 5 .u8 (ints [99])) := set_eq'
  replace y2 := s47 _ _ y2
  replace y4 := s47 _ _ y4
  replace hV := hV.mono s47
  replace hr3 := hr3.keep fun x l hx => s47 _ _ hx
  replace hr := hr.keep fun x l hx => s47 _ _ hx
  obtain ⟨Y47, hY47⟩ : ∃ Y, C10.set g47 (.irow 5 .u8 [99]) = Y := ⟨_, rfl⟩
  rw [hY47] at s47 y2 y4 hV hr3 hr e47 ⊢
  clear hY47
  refine (w_tree_Climb (a := 2) (n := 3) (p := [w3N]) (b := [99]) (by decide) (by decide) w3N_ok (by decide) (by unfold Bytes; decide) (by decide)).call (.cons (prf_vw hr3) rfl (.cons (vw_irow e47 rfl) rfl .nil)) rfl ?_
  rw [clmB3, show clmA 2 3 [w3N] [99] = w3R from clmA3 _]
  simp -implicitDefEqProofs [adV, w3R_len]
  intro g12 h12
  have s12 := sub_none (c := .var 23 [.iarr .u8 32 (ints w3R)]) h12
  have y12 : (Y47.set g12 (.var 23 [.iarr .u8 32 (ints w3R)])) g12 = some (.var 23 [.iarr .u8 32 (ints w3R)]) := set_eq'
  replace y2 := s12 _ _ y2
  replace y4 := s12 _ _ y4
  replace hV := hV.mono s12
  replace hr3 := hr3.keep fun x l hx => s12 _ _ hx
  replace hr := hr.keep fun x l hx => s12 _ _ hx
  obtain ⟨Y12, hY12⟩ : ∃ Y, Y47.set g12 (.var 23 [.iarr .u8 32 (ints w3R)]) = Y := ⟨_, rfl⟩
  rw [hY12] at s12 y2 y4 hV hr3 hr y12 ⊢
  clear hY12
  have hl3 : ∀ F : AV → Prop, alen false p3 F = F (.int .i64 1) := fun F => by rw [hr3.len]; rfl
  simp -implicitDefEqProofs [q_law31_works_8, y2, y4, y12, hl3, w3R_len, hs3.size, hs3.shp, hs3.agg, hs3.good, hs3.comps, hs3.st]
  intro g67 h67
  have s67 := sub_none (c := .irow 5 .u8 [99]) h67
  have e67 : (Y12.set g67 (.irow 5 .u8 [99])) g67 = some (.irow 5 .u8 (ints [99])) := set_eq'
  replace y2 := s67 _ _ y2
  replace y4 := s67 _ _ y4
  replace y12 := s67 _ _ y12
  replace hV := hV.mono s67
  replace hr3 := hr3.keep fun x l hx => s67 _ _ hx
  replace hr := hr.keep fun x l hx => s67 _ _ hx
  obtain ⟨Y67, hY67⟩ : ∃ Y, Y12.set g67 (.irow 5 .u8 [99]) = Y := ⟨_, rfl⟩
  rw [hY67] at s67 y2 y4 y12 hV hr3 hr e67 ⊢
  clear hY67
  refine (w_tree_Verify (r := w3R) (a := 2) (n := 3) (p := [w3N]) (b := [99]) w3R_len (by decide) (by decide) w3N_ok (by decide) (by unfold Bytes; decide) (by decide)).call (.cons (.refl _) rfl (.cons (prf_vw hr3) rfl (.cons (vw_irow e67 rfl) rfl .nil))) rfl ?_
  rw [clmB3, show clmA 2 3 [w3N] [99] = w3R from clmA3 _]
  simp -implicitDefEqProofs [y2, y4, y12, w3R_len, hs3.size, hs3.shp, hs3.agg, hs3.good, hs3.comps, hs3.st]
  intro g74 h74
  have s74 := sub_none (c := .irow 5 .u8 [100]) h74
  have e74 : (Y67.set g74 (.irow 5 .u8 [100])) g74 = some (.irow 5 .u8 (ints [100])) := set_eq'
  replace y2 := s74 _ _ y2
  replace y4 := s74 _ _ y4
  replace y12 := s74 _ _ y12
  replace hV := hV.mono s74
  replace hr3 := hr3.keep fun x l hx => s74 _ _ hx
  replace hr := hr.keep fun x l hx => s74 _ _ hx
  obtain ⟨Y74, hY74⟩ : ∃ Y, Y67.set g74 (.irow 5 .u8 [100]) = Y := ⟨_, rfl⟩
  rw [hY74] at s74 y2 y4 y12 hV hr3 hr e74 ⊢
  clear hY74
  refine (w_tree_Verify (r := w3R) (a := 2) (n := 3) (p := [w3N]) (b := [100]) w3R_len (by decide) (by decide) w3N_ok (by decide) (by unfold Bytes; decide) (by decide)).call (.cons (.refl _) rfl (.cons (prf_vw hr3) rfl (.cons (vw_irow e74 rfl) rfl .nil))) rfl ?_
  have hd : decide (clmA 2 3 [w3N] [100] = w3R) = false := by rw [decide_eq_false_iff_not, clmA3]; exact w3_ne
  rw [clmB3, hd]
  have hlr : ∀ F : AV → Prop, alen false r F = F (.int .i64 3) := fun F => by rw [hr.len, hvl]; rfl
  simp -implicitDefEqProofs [y2, y4, y12, hlr, w3R_len, eqI_ints w3R_len w3R_len]
  refine (w_tree_Depth (n := 3) (by decide) (by decide)).call (.cons (.refl _) rfl .nil) rfl ?_
  rw [show dep (3 : Int).toNat = 2 from dep3]
  simp -implicitDefEqProofs
  refine (w_tree_Depth (n := 1) (by decide) (by decide)).call (.cons (.refl _) rfl .nil) rfl ?_
  rw [show dep (1 : Int).toNat = 0 from dep_one (by decide)]
  simp -implicitDefEqProofs
  refine (w_tree_Check (L := L3) (by decide)).call (.cons hV.vw rfl .nil) rfl ?_
  rw [L3_chk]
  simp -implicitDefEqProofs
  refine (w_tree_Leaf (i := 0) (b := []) (by decide) (by unfold Bytes; decide) (by decide)).call (.cons (.refl _) rfl (.cons (.nil _) rfl .nil)) rfl ?_
  simp -implicitDefEqProofs
  refine (w_tree_Leaf (i := 1) (b := []) (by decide) (by unfold Bytes; decide) (by decide)).call (.cons (.refl _) rfl (.cons (.nil _) rfl .nil)) rfl ?_
  simp -implicitDefEqProofs [eqI_ints (dig_length (lefT 0 [])) (dig_length (lefT 1 [])), w3_leaf, outOf]
end
end Go.Proofs.Ytfdckjliinpjiaa

/- The walks of light and TreeRoots. -/
namespace Go.Proofs.Ytfdckjliinpjiaa
open Go AVL
attribute [-simp] AV.isAgg aappI aapp alen shp good comps szOK aslc List.reduceReplicate
set_option linter.unusedVariables false
set_option linter.unusedSimpArgs false
set_option maxRecDepth 20000

section
variable {A B C D : Heap} {K Kp : AV → Heap → Prop} {P : Program}
theorem txts_in : ∀ {l : List AV}, (∀ x ∈ l, ATy.has (.isl .u8) x) → ∃ L, l = txts L ∧ (∀ b ∈ L, Bytes b)
  | [], _ => ⟨[], rfl, by simp⟩
  | v :: r, h => by
    obtain ⟨L, rfl, h1⟩ := txts_in (l := r) fun n hn => h n (by simp [hn])
    have hv := h v (by simp)
    unfold ATy.has at hv
    obtain ⟨zs, rfl, hl, hw⟩ := hv
    obtain ⟨b, rfl, hb⟩ := bytes_in hw
    refine ⟨b :: L, rfl, ?_⟩
    intro x hx
    rcases List.mem_cons.1 hx with rfl | hx
    · exact hb
    · exact h1 x hx
def Lit (L : List (List Nat)) : Prop := L.length ≤ 40 ∧ ∀ b ∈ L, b.length ≤ 100
instance (L : List (List Nat)) : Decidable (Lit L) := by unfold Lit; infer_instance
def LitI (L : List (List Nat)) (k : Nat) (env : AEnv) (E : Heap) : Prop := k ≤ L.length ∧ (∀ b ∈ L.take k, b.length ≤ 100) ∧ env 0 = .dsl 1 (txts L) ∧ env 3 = .int .i64 k
theorem w_law31_light {L : List (List Nat)} (hl : L.length < 2 ^ 63) : Gives Try.prog F_law31_light [.dsl 1 (txts L)] (.bool (decide (Lit L))) := by
  refine v_law31_light (by simp) ?_
  by_cases h40 : 40 < L.length
  · have h40' : (40 : Int) < L.length := by omega
    have hd : decide (Lit L) = false := by rw [decide_eq_false_iff_not]; intro h; have := h.1; omega
    simp -implicitDefEqProofs [a_law31_light, q_law31_light_0, q_law31_light_1, q_law31_light_2, h40, h40', hd, outOf]
  · have h40' : ¬ (40 : Int) < L.length := by omega
    simp -implicitDefEqProofs [a_law31_light, q_law31_light_0, q_law31_light_1, q_law31_light_3, h40, h40']
    refine X_lp (LitI L) (fun k => L.length - k) 0 ⟨by omega, by simp, by simp, by simp⟩ ?_
    rintro k env E ⟨hk, hall, e0, e3⟩
    by_cases hkl : k < L.length
    · have hkl' : (k : Int) < L.length := by omega
      have wk : IntKind.i64.wrap ((k : Int) + 1) = (k : Int) + 1 := wrap_i64 (by omega)
      by_cases hb : 100 < L[k].length
      · have hb' : (100 : Int) < L[k].length := by omega
        have hd : decide (Lit L) = false := by rw [decide_eq_false_iff_not]; intro h; have := h.2 L[k] (List.getElem_mem hkl); omega
        simp -implicitDefEqProofs [q_law31_light_L8, q_law31_light_4, q_law31_light_5, q_law31_light_6, e0, e3, hkl, hkl', hb, hb', hd, outOf]
      · have hb' : ¬ (100 : Int) < L[k].length := by omega
        simp -implicitDefEqProofs [q_law31_light_L8, q_law31_light_4, q_law31_light_5, q_law31_light_7, e0, e3, hkl, hkl', hb, hb', wk]
        refine lp_next (k + 1) ⟨by omega, ?_, by simp [e0], by simp⟩ (by omega)
        rw [← take_one hkl]
        intro b hm
        rcases List.mem_append.1 hm with h | h
        · exact hall b h
        · simp at h; subst h; omega
    · have hkl' : ¬ (k : Int) < L.length := by omega
      rw [List.take_of_length_le (by omega)] at hall
      have hd : decide (Lit L) = true := decide_eq_true ⟨by omega, hall⟩
      simp -implicitDefEqProofs [q_law31_light_L8, q_law31_light_4, q_law31_light_8, e0, e3, hkl, hkl', hd, outOf]
theorem Lit.ths {L : List (List Nat)} (h : Lit L) (hb : ∀ b ∈ L, Bytes b) : Ths L := fun b hm => ⟨hb b hm, by have := h.2 b hm; omega⟩
theorem rootR_len (L : List (List Nat)) : (rootR L).length = 32 := by
  unfold rootR; split
  · exact dig_length _
  · rfl
theorem pathU_ok : ∀ (n : Nat) (M : List (List Nat)) (i : Nat), M.length = n → AdL M → AdL (pathU M i) := by
  intro n
  induction n using Nat.strongRecOn with
  | ind n ih =>
  intro M i hn hM
  by_cases h : 2 ≤ M.length
  · rw [pathU_more h]
    intro a ha
    rcases List.mem_append.1 ha with ha | ha
    · cases hg : M[i ^^^ 1]? with
      | none => rw [hg] at ha; simp at ha
      | some b =>
        rw [hg] at ha
        simp at ha; subst ha
        exact hM _ (List.mem_of_getElem? hg)
    · exact ih ((n + 1) / 2) (by omega) (upL M) (i / 2) (by rw [upL_length]; omega) (upL_ok hM) a ha
  · rw [pathU_one (by omega)]; intro a ha; simp at ha
theorem pathU_len10 {M : List (List Nat)} {i : Nat} (h1 : M.length ≤ 1024) : (pathU M i).length ≤ 10 :=
  Nat.le_trans (pathU_length M.length M i rfl) (dep_bound 10 _ (by omega))
theorem w_TreeRoots {L : List (List Nat)} {a n : Int} (hL : ∀ b ∈ L, Bytes b) (hl : L.length < 2 ^ 63) (ha1 : -2 ^ 63 ≤ a) (ha2 : a < 2 ^ 63) (hn1 : -2 ^ 63 ≤ n) (hn2 : n < 2 ^ 63) :
    Gives Try.prog F_law31_TreeRoots [.dsl 1 (txts L), .int .i64 a, .int .i64 n] (.bool true) := by
  refine v_law31_TreeRoots (by simp) ?_
  simp -implicitDefEqProofs [a_law31_TreeRoots, q_law31_TreeRoots_0, q_law31_TreeRoots_1]
  refine (w_law31_light hl).call (.cons (.refl _) rfl .nil) rfl ?_
  by_cases hlit : Lit L
  case neg =>
    have hd : decide (Lit L) = false := by simpa using hlit
    simp -implicitDefEqProofs [hd, q_law31_TreeRoots_2]
    refine w_law31_works.call .nil rfl ?_
    simp -implicitDefEqProofs [outOf]
  have hd : decide (Lit L) = true := by simpa using hlit
  have hT := hlit.ths hL
  have hl40 := hlit.1
  have hrl := rootR_len L
  rw [hd]
  simp -implicitDefEqProofs [q_law31_TreeRoots_3]
  refine (w_tree_Root hT (by omega)).call (.cons (.refl _) rfl .nil) rfl ?_
  simp -implicitDefEqProofs [adV, hrl]
  intro g7
  simp -implicitDefEqProofs [q_law31_TreeRoots_4]
  refine (w_ref31_Root hT (by omega)).call (.cons (.refl _) rfl .nil) rfl ?_
  simp -implicitDefEqProofs [adV, hrl]
  intro g9 n9 n9'
  simp -implicitDefEqProofs [q_law31_TreeRoots_5, n9, n9', hrl, eqI_ints hrl hrl]
  refine (w_tree_Check (L := L) (by omega)).call (.cons (.refl _) rfl .nil) rfl ?_
  simp -implicitDefEqProofs [q_law31_TreeRoots_7]
  refine Prove_call hT (by omega) (.refl _) rfl ha1 ha2 fun p C hp => ?_
  have hs := hp.scl
  have hpl : ∀ F : AV → Prop, alen false p F = F (.int .i64 (prvP L a).length) := fun F => by rw [hp.len]; simp
  simp -implicitDefEqProofs [prf, hs.size, hs.shp, hs.agg, hs.good, hs.comps, hs.st]
  intro g11 h11
  have s11 := sub_none (c := .var 82 [.int .i64 (prvA L a), .int .i64 (prvO L a), p]) h11
  obtain ⟨Y, hY⟩ : ∃ Y, C.set g11 (.var 82 [.int .i64 (prvA L a), .int .i64 (prvO L a), p]) = Y := ⟨_, rfl⟩
  have y11 : Y g11 = some (.var 82 [.int .i64 (prvA L a), .int .i64 (prvO L a), p]) := by rw [← hY, set_eq']
  have hr : RowAt T_32_uint8 32 p (ads (prvP L a)) Y := by rw [← hY]; exact (hp.mono s11).rowAt
  rw [hY]
  clear hY s11 hp
  have bad : ∀ c : Int, prvC L a = c → c ≠ 0 → prvP L a = [] := fun c h1 h2 => by unfold prvP; rw [if_neg (by rw [h1]; exact h2)]
  by_cases hc : chkL L.length = 0
  · by_cases h0 : a < 0
    · have hC : prvC L a = 2 := by unfold prvC; rw [if_neg (by simp [hc]), if_pos (.inl h0)]
      rw [bad 2 hC (by decide)] at hpl
      simp -implicitDefEqProofs [q_law31_TreeRoots_8, q_law31_TreeRoots_9, hc, h0, hC, y11, hpl, hs.size, hs.shp, hs.agg, hs.good, hs.comps, hs.st]
      refine w_law31_works.call .nil rfl ?_
      simp -implicitDefEqProofs [outOf]
    by_cases h1 : (L.length : Int) ≤ a
    · have hC : prvC L a = 2 := by unfold prvC; rw [if_neg (by simp [hc]), if_pos (.inr h1)]
      rw [bad 2 hC (by decide)] at hpl
      simp -implicitDefEqProofs [q_law31_TreeRoots_8, q_law31_TreeRoots_9, hc, h0, h1, hC, y11, hpl, hs.size, hs.shp, hs.agg, hs.good, hs.comps, hs.st]
      refine w_law31_works.call .nil rfl ?_
      simp -implicitDefEqProofs [outOf]
    have hC : prvC L a = 0 := by unfold prvC; rw [if_neg (by simp [hc]), if_neg (by omega)]
    have hA : prvA L a = a := by unfold prvA; rw [if_pos hC]
    have hO : prvO L a = L.length := by unfold prvO; rw [if_pos hC]
    have hP : prvP L a = pathU (lvs 0 L) a.toNat := by unfold prvP; rw [if_pos hC]
    rw [hP] at hr hpl
    rw [hA, hO] at y11
    obtain ⟨m, rfl⟩ : ∃ m : Nat, a = m := ⟨a.toNat, by omega⟩
    rw [Int.toNat_natCast] at hr hpl
    have hm : m < L.length := by omega
    have hm' : (m : Int) < L.length := by omega
    have hb := hT L[m] (List.getElem_mem hm)
    have hl32 := dig_length (lefT m L[m])
    simp -implicitDefEqProofs [q_law31_TreeRoots_8, q_law31_TreeRoots_10, hc, h0, h1, hC, hm, hm', y11, hs.size, hs.shp, hs.agg, hs.good, hs.comps, hs.st]
    have hpo := pathU_ok L.length (lvs 0 L) m (by simp) (lvs_ok 0 L)
    have hp10 := pathU_len10 (M := lvs 0 L) (i := m) (by simp; omega)
    refine (w_ref31_Path hT hm (by omega)).call (.cons (.refl _) rfl (.cons (.refl _) rfl .nil)) (ads_noF _) fun v C2 hv => ?_
    have hsv := hv.scl
    have c11 := hv.sub _ _ y11
    have hr2 := hr.keep fun x l hx => hv.sub _ _ hx
    simp -implicitDefEqProofs [c11, y11, hs.size, hs.shp, hs.agg, hs.good, hs.comps, hs.st, hsv.size, hsv.shp, hsv.agg, hsv.good, hsv.comps, hsv.st]
    refine (w_ref31_Same hpo hpo (by omega) (by omega)).call (.cons (RowAt.vw hr2) hs.agg (.cons hv.vw hsv.agg .nil)) rfl ?_
    simp -implicitDefEqProofs [hm, hm', hs.size, hs.shp, hs.agg, hs.good, hs.comps, hs.st, hsv.size, hsv.shp, hsv.agg, hsv.good, hsv.comps, hsv.st]
    refine (w_tree_Leaf (by omega) hb.1 hb.2).call (.cons (.refl _) rfl (.cons (.refl _) rfl .nil)) rfl ?_
    simp -implicitDefEqProofs [hl32]
    refine sim_LeafText (by omega) hb.2 (.isl L[m]) fun v9 C9 hv9 => ?_
    have hs9 := hv9.scl
    simp -implicitDefEqProofs [hs9.size, hs9.shp, hs9.agg, hs9.good, hs9.comps, hs9.st]
    refine (w_ref03_Sum (lefT_bytes hb.1) (by have := hb.2; simp [lefT, lefW]; omega)).call (.cons hv9.vw hs9.agg .nil) rfl ?_
    simp -implicitDefEqProofs [hl32, eqI_ints hl32 hl32, q_law31_TreeRoots_12]
    refine ⟨fun hbig => ?_, fun hsm => ?_⟩
    · simp -implicitDefEqProofs [q_law31_TreeRoots_13]
      refine w_law31_works.call .nil rfl ?_
      simp -implicitDefEqProofs [outOf]
    · simp -implicitDefEqProofs [q_law31_TreeRoots_14]
      refine (w_tree_Depth hn1 (by omega)).call (.cons (.refl _) rfl .nil) rfl ?_
      simp -implicitDefEqProofs
      refine (w_ref31_Rows hn1 (by omega)).call (.cons (.refl _) rfl .nil) rfl ?_
      simp -implicitDefEqProofs
      refine w_law31_works.call .nil rfl ?_
      simp -implicitDefEqProofs [outOf]
  · have hC : prvC L a = chkL L.length := by unfold prvC; rw [if_pos hc]
    rw [bad _ hC hc] at hpl
    simp -implicitDefEqProofs [q_law31_TreeRoots_8, q_law31_TreeRoots_9, hc, hC, y11, hpl, hs.size, hs.shp, hs.agg, hs.good, hs.comps, hs.st]
    refine w_law31_works.call .nil rfl ?_
    simp -implicitDefEqProofs [outOf]
end
end Go.Proofs.Ytfdckjliinpjiaa

/- The walk of TreeBack. -/
namespace Go.Proofs.Ytfdckjliinpjiaa
open Go AVL
attribute [-simp] AV.isAgg aappI aapp alen shp good comps szOK aslc List.reduceReplicate
set_option linter.unusedVariables false
set_option linter.unusedSimpArgs false
set_option maxRecDepth 20000

section
variable {A B C D : Heap} {K Kp : AV → Heap → Prop} {P : Program}
/-- The way from a thing that stands there leads to the sum. -/
theorem clm_path {L : List (List Nat)} (h1 : chkL L.length = 0) {k : Nat} (hk : k < L.length) : clmI k L.length (pathU (lvs 0 L) k) L[k] = some (topD (lvs 0 L), []) := by
  obtain ⟨g1, g2⟩ := chkL_zero h1
  unfold clmI
  rw [if_neg (by omega)]
  simp only [Int.toNat_natCast]
  refine climb_path L.length (lvs 0 L) k _ (by simp) ?_
  rw [List.getElem?_eq_getElem (by simpa using hk), lvs_get 0 L k hk, Nat.zero_add]
theorem clmA_path {L : List (List Nat)} (h1 : chkL L.length = 0) {k : Nat} (hk : k < L.length) : clmA k L.length (pathU (lvs 0 L) k) L[k] = rootR L := by
  unfold clmA rootR; rw [clm_path h1 hk, if_pos h1]; simp
theorem clmB_path {L : List (List Nat)} (h1 : chkL L.length = 0) {k : Nat} (hk : k < L.length) : clmB k L.length (pathU (lvs 0 L) k) L[k] = true := by
  unfold clmB; rw [clm_path h1 hk]; simp
def BakI (L : List (List Nat)) (E0 : Heap) (g3 : Nat) (r : AV) (k : Nat) (env : AEnv) (E : Heap) : Prop := k ≤ L.length ∧ E0.Sub E ∧ env 0 = .dsl 1 (txts L) ∧ env 3 = .ptr g3 0 ∧ env 5 = r ∧ env 7 = .int .i64 k
theorem w_TreeBack {L : List (List Nat)} (hL : ∀ b ∈ L, Bytes b) (hl : L.length < 2 ^ 63) : Gives Try.prog F_law31_TreeBack [.dsl 1 (txts L)] (.bool true) := by
  refine v_law31_TreeBack (by simp) ?_
  simp -implicitDefEqProofs [a_law31_TreeBack, q_law31_TreeBack_0, q_law31_TreeBack_1]
  refine (w_law31_light hl).call (.cons (.refl _) rfl .nil) rfl ?_
  by_cases hlit : Lit L
  case neg =>
    have hd : decide (Lit L) = false := by simpa using hlit
    rw [hd]
    simp -implicitDefEqProofs [q_law31_TreeBack_2]
    refine w_law31_works.call .nil rfl ?_
    simp -implicitDefEqProofs [outOf]
  have hd : decide (Lit L) = true := by simpa using hlit
  have hT := hlit.ths hL
  have hl40 := hlit.1
  rw [hd]
  by_cases h0 : L.length = 0
  · have h0' : (L.length : Int) = 0 := by omega
    simp -implicitDefEqProofs [h0, h0', q_law31_TreeBack_2]
    refine w_law31_works.call .nil rfl ?_
    simp -implicitDefEqProofs [outOf]
  have h0' : ¬ (L.length : Int) = 0 := by omega
  have hne : ¬ L = [] := by rintro rfl; exact h0 rfl
  have hc : chkL L.length = 0 := by unfold chkL; rw [if_neg h0, if_neg (by omega)]
  have hrl := rootR_len L
  simp -implicitDefEqProofs [h0, h0', hne, q_law31_TreeBack_3]
  refine (w_tree_Root hT (by omega)).call (.cons (.refl _) rfl .nil) rfl ?_
  rw [hc]
  simp -implicitDefEqProofs [adV, hrl]
  intro g3
  simp -implicitDefEqProofs [q_law31_TreeBack_4]
  refine All_call hT hc (.refl _) rfl fun r vs C hs hr hall => ?_
  have hsr := hr.scl
  have c3 := hs g3 _ set_eq'
  have hvl := hall.len
  simp only [List.length_range] at hvl
  have hlr : ∀ F : AV → Prop, alen false r F = F (.int .i64 L.length) := fun F => by rw [hr.len, hvl]
  simp -implicitDefEqProofs [hsr.size, hsr.shp, hsr.agg, hsr.good, hsr.comps, hsr.st, q_law31_TreeBack_5, q_law31_TreeBack_7, hlr]
  refine X_lp (BakI L C g3 r) (fun k => L.length - k) 0 ⟨by omega, Sub_refl C, by simp, by simp, by simp, by simp⟩ ?_
  rintro k env E ⟨hk, hsub, e0, e3, e5, e7⟩
  replace c3 := hsub _ _ c3
  by_cases hkl : k < L.length
  · have hkl' : (k : Int) < L.length := by omega
    have wk : IntKind.i64.wrap ((k : Int) + 1) = (k : Int) + 1 := wrap_i64 (by omega)
    obtain ⟨gr, r1, r2⟩ := hr.pos (by omega)
    rw [hvl] at r1
    replace r2 := hsub _ _ r2
    have hkv : k < vs.length := by omega
    obtain ⟨_, p, hp1, hp2⟩ := hall.get k (by simpa using hkl)
    simp only [List.getElem_range] at hp1 hp2
    replace hp2 := hp2.keep fun x l hx => hsub _ _ hx
    have hps := RowAt.scl hp2
    have hb := hT L[k] (List.getElem_mem hkl)
    have hA := clmA_path hc hkl
    have hB := clmB_path hc hkl
    have hpo := pathU_ok L.length (lvs 0 L) k (by simp) (lvs_ok 0 L)
    have hp10 := pathU_len10 (M := lvs 0 L) (i := k) (by simp; omega)
    have hpd := pathU_length L.length (lvs 0 L) k (by simp)
    have hlp : ∀ F : AV → Prop, alen false p F = F (.int .i64 (pathU (lvs 0 L) k).length) := fun F => by rw [hp2.len]; simp
    simp -implicitDefEqProofs [q_law31_TreeBack_L13, q_law31_TreeBack_8, q_law31_TreeBack_9, e0, e3, e5, e7, hkl, hkl', r1, r2, hkv, hp1, prf, hps.size, hps.shp, hps.agg, hps.good, hps.comps, hps.st]
    refine (w_tree_Climb (a := k) (n := L.length) (p := pathU (lvs 0 L) k) (b := L[k]) (by omega) (by omega) hpo (by omega) hb.1 hb.2).call (.cons (prf_vw hp2) rfl (.cons (.refl _) rfl .nil)) rfl ?_
    rw [hA, hB]
    simp -implicitDefEqProofs [adV, hrl]
    intro g8 h8
    have s8 := sub_none (c := .var 23 [.iarr .u8 32 (ints (rootR L))]) h8
    obtain ⟨Y, hY⟩ : ∃ Y, E.set g8 (.var 23 [.iarr .u8 32 (ints (rootR L))]) = Y := ⟨_, rfl⟩
    have y8 : Y g8 = some (.var 23 [.iarr .u8 32 (ints (rootR L))]) := by rw [← hY, set_eq']
    rw [hY] at s8 ⊢
    clear hY
    replace c3 := s8 _ _ c3
    replace r2 := s8 _ _ r2
    replace hp2 := hp2.keep fun x l hx => s8 _ _ hx
    simp -implicitDefEqProofs [q_law31_TreeBack_10, e0, e3, e5, e7, c3, y8, hrl, eqI_ints hrl hrl, hkl, hkl', r1, r2, hkv, hp1, prf, hlp, hps.size, hps.shp, hps.agg, hps.good, hps.comps, hps.st]
    refine (w_tree_Verify (r := rootR L) (a := k) (n := L.length) (p := pathU (lvs 0 L) k) (b := L[k]) hrl (by omega) (by omega) hpo (by omega) hb.1 hb.2).call (.cons (.refl _) rfl (.cons (prf_vw hp2) rfl (.cons (.refl _) rfl .nil))) rfl ?_
    rw [hA, hB]
    simp -implicitDefEqProofs [e0, e3, e5, e7, c3, y8, hkl, hkl', r1, r2, hkv, hp1, prf, hlp, hps.size, hps.shp, hps.agg, hps.good, hps.comps, hps.st]
    have hdep := w_tree_Depth (n := L.length) (by omega) (by omega)
    rw [Int.toNat_natCast] at hdep
    refine hdep.call (.cons (.refl _) rfl .nil) rfl ?_
    have hnd : ¬ (dep L.length : Int) < (pathU (lvs 0 L) k).length := by omega
    have hnd' : ¬ dep L.length < (pathU (lvs 0 L) k).length := by omega
    simp -implicitDefEqProofs [hnd, hnd', r2, Sub_refl, q_law31_TreeBack_12, e7, wk]
    exact lp_next (k + 1) ⟨by omega, sub_tr hsub s8, by simp [e0], by simp [e3], by simp [e5, r1], by simp⟩ (by omega)
  · have hkl' : ¬ (k : Int) < L.length := by omega
    simp -implicitDefEqProofs [q_law31_TreeBack_L13, q_law31_TreeBack_8, q_law31_TreeBack_13, e0, e7, hkl, hkl']
    refine w_law31_works.call .nil rfl ?_
    simp -implicitDefEqProofs [outOf]
end
end Go.Proofs.Ytfdckjliinpjiaa
