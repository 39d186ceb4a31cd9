/- The walk of DiskLasts. -/
import Derived.Test.YtjbiekcldkjgjaaKl
namespace Go.Proofs.Ytjbiekcldkjgjaa
open Go AVL
attribute [-simp] AV.isAgg aappI aapp alen shp good comps
set_option linter.unusedVariables false
set_option linter.unusedSimpArgs false
set_option maxRecDepth 8000

/-- Six rows of sectors, of which the first m are there. -/
structure SeenAt (m : Nat) (B : Heap) (vs : List AV) (S : Nat → List (List Nat)) : Prop where
  len : vs.length = 6
  at' : ∀ k, k < m → ∃ g i R, vs[k]? = some (.own g i (S k).length) ∧ B g = some (.row T_256_uint8 256 R) ∧ i + (S k).length ≤ R.length ∧ (R.drop i).take (S k).length = secs (S k)
  nil : ∀ k, m ≤ k → k < 6 → vs[k]? = some .nilS
  ne : ∀ (j k g i n i' n' : Nat), j ≠ k → vs[j]? = some (AV.own g i n) → vs[k]? ≠ some (AV.own g i' n')
section
variable {m : Nat} {B B' : Heap} {vs : List AV} {S : Nat → List (List Nat)}
theorem SeenAt.mono (h : SeenAt m B vs S) (hs : B.Sub B') : SeenAt m B' vs S :=
  ⟨h.len, fun k hk => let ⟨g, i, R, h1, h2, h3⟩ := h.at' k hk; ⟨g, i, R, h1, hs _ _ h2, h3⟩, h.nil, h.ne⟩
theorem SeenAt.scl (h : SeenAt m B vs S) {k : Nat} (hk : k < 6) : ∃ v, vs[k]? = some v ∧ Scl v := by
  by_cases hm : k < m
  · obtain ⟨g, i, R, h1, _⟩ := h.at' k hm
    exact ⟨_, h1, ⟨rfl, rfl, rfl, rfl, rfl, rfl, rfl⟩⟩
  · exact ⟨_, h.nil k (by omega) hk, ⟨rfl, rfl, rfl, rfl, rfl, rfl, rfl⟩⟩
theorem SeenAt.all (h : SeenAt m B vs S) : AllS vs := fun v hv => by
  obtain ⟨k, hk, rfl⟩ := List.mem_iff_getElem.1 hv
  obtain ⟨v, h1, h2⟩ := h.scl (k := k) (by rw [← h.len]; exact hk)
  rw [List.getElem?_eq_getElem hk] at h1
  injection h1 with h1; rw [h1]; exact h2.size
/-- A store in the cell of the rows. -/
theorem SeenAt.poke {c : Nat} {t : TypeId} {us : List AV} {x : Cont} (h : SeenAt m B vs S) (hc : B c = some (.var t us)) : SeenAt m (B.set c x) vs S :=
  ⟨h.len, fun k hk => let ⟨g, i, R, h1, h2, h3⟩ := h.at' k hk; ⟨g, i, R, h1, by rw [Heap.set_ne _ _ (by rintro rfl; rw [h2] at hc; cases hc)]; exact h2, h3⟩, h.nil, h.ne⟩
theorem SeenAt.get (h : SeenAt m B vs S) {k : Nat} (hk : k < 6) {v : AV} (hv : vs[k]? = some v) : getC vs k 1 .sc = some v := by
  have hl : k < vs.length := by rw [h.len]; exact hk
  obtain ⟨u, h1, h2⟩ := h.scl hk
  rw [hv] at h1; injection h1 with h1; subst h1
  rw [List.getElem?_eq_getElem hl] at hv
  injection hv with hv
  have := getC_S h.all hl (by rw [hv]; exact h2.shp)
  rw [this, hv]
theorem SeenAt.setC (h : SeenAt m B vs S) {k : Nat} (hk : k < 6) (v : AV) : setC vs k 1 [v] = some (vs.set k v) := setC_S h.all (by rw [h.len]; exact hk) v
theorem SeenAt.td (h : SeenAt m B vs S) {k : Nat} (hk : k < 6) {v : AV} (hv : vs[k]? = some v) : takeC vs k = some (vs.take k) ∧ dropC vs (k + 1) = some (vs.drop (k + 1)) ∧ dropC vs k = some (vs.drop k) ∧ takeC (vs.drop k) 1 = some [v] := by
  have hl : k < vs.length := by rw [h.len]; exact hk
  refine ⟨takeC_S h.all (by omega), dropC_S h.all (by omega), dropC_S h.all (by omega), ?_⟩
  rw [takeC_S (h.all.drop k) (by simp; omega)]
  rw [List.getElem?_eq_getElem hl] at hv
  injection hv with hv
  rw [List.drop_eq_getElem_cons hl, hv]; rfl
theorem SeenAt.eqs (h : SeenAt m B vs S) {k : Nat} (hk : k < 6) (v : AV) : vs.take k ++ v :: vs.drop (k + 1) = vs.set k v := by
  rw [List.set_eq_take_append_cons_drop, if_pos (by rw [h.len]; exact hk)]
theorem SeenAt.congr (h : SeenAt 6 B vs S) {S' : Nat → List (List Nat)} (he : ∀ k, k < 6 → S k = S' k) : SeenAt 6 B vs S' :=
  ⟨h.len, fun k hk => by rw [← he k hk]; exact h.at' k hk, h.nil, h.ne⟩
/-- One of the rows is put in place. -/
theorem SeenAt.put (h : SeenAt m B vs S) {a : Nat} (ha : a < 6) {g' : Nat} {T : List (List Nat)} {m' : Nat} (hf : ∀ (k i n : Nat), vs[k]? ≠ some (AV.own g' i n)) (hg : B' g' = some (.row T_256_uint8 256 (secs T)))
    (hkeep : ∀ x c, B x = some c → (∀ (i n : Nat), vs[a]? ≠ some (AV.own x i n)) → B' x = some c) (hm : ∀ k, k < m' → k = a ∨ k < m) (hm2 : ∀ k, m' ≤ k → m ≤ k ∧ k ≠ a) :
    SeenAt m' B' (vs.set a (.own g' 0 T.length)) (fun k => if k = a then T else S k) := by
  have hl : a < vs.length := by rw [h.len]; exact ha
  have gne : ∀ {k : Nat}, k ≠ a → (vs.set a (.own g' 0 T.length))[k]? = vs[k]? := fun hk => by rw [List.getElem?_set, if_neg (Ne.symm hk)]
  have geq : (vs.set a (.own g' 0 T.length))[a]? = some (.own g' 0 T.length) := by rw [List.getElem?_set, if_pos rfl, if_pos hl]
  refine ⟨by rw [List.length_set]; exact h.len, fun k hk => ?_, fun k hk hk6 => ?_, fun j k g i n i' n' hjk hj hk => ?_⟩
  · by_cases hka : k = a
    · subst hka
      refine ⟨g', 0, secs T, ?_, hg, by simp, ?_⟩
      · rw [geq]; simp
      · simp only [if_true, List.drop_zero]; exact List.take_of_length_le (by simp)
    · rcases hm k hk with e | e
      · exact absurd e hka
      · obtain ⟨g, i, R, h1, h2, h3⟩ := h.at' k e
        simp only [if_neg hka]
        refine ⟨g, i, R, by rw [gne hka]; exact h1, hkeep g _ h2 fun i' n' e' => h.ne k a g i _ i' n' hka h1 e', h3⟩
  · obtain ⟨h1, h2⟩ := hm2 k hk
    rw [gne h2]; exact h.nil k h1 hk6
  · by_cases hja : j = a
    · subst hja
      rw [geq] at hj
      injection hj with hj; injection hj with hj _ _; subst hj
      rw [gne (Ne.symm hjk)] at hk
      exact hf _ _ _ hk
    · rw [gne hja] at hj
      by_cases hka : k = a
      · subst hka
        rw [geq] at hk
        injection hk with hk; injection hk with hk _ _; subst hk
        exact hf _ _ _ hj
      · rw [gne hka] at hk
        exact h.ne j k g i n i' n' hjk hj hk
/-- One of the rows is cut to its last. -/
theorem SeenAt.cut (h : SeenAt m B vs S) {a : Nat} (ha : a < m) (ha6 : a < 6) {g i : Nat} (hv : vs[a]? = some (.own g i (S a).length)) (hp : 0 < (S a).length) :
    SeenAt m B (vs.set a (.own g (i + ((S a).length - 1)) 1)) (fun k => if k = a then lastOf (S k) else S k) := by
  have hl : a < vs.length := by rw [h.len]; exact ha6
  have gne : ∀ {k : Nat}, k ≠ a → (vs.set a (.own g (i + ((S a).length - 1)) 1))[k]? = vs[k]? := fun hk => by rw [List.getElem?_set, if_neg (Ne.symm hk)]
  have geq : (vs.set a (.own g (i + ((S a).length - 1)) 1))[a]? = some (.own g (i + ((S a).length - 1)) 1) := by rw [List.getElem?_set, if_pos rfl, if_pos hl]
  have hlo : (lastOf (S a)).length = 1 := by unfold lastOf; rw [List.length_drop]; omega
  refine ⟨by rw [List.length_set]; exact h.len, fun k hk => ?_, fun k hk hk6 => ?_, fun j k g2 i2 n i' n' hjk hj hk => ?_⟩
  · by_cases hka : k = a
    · subst hka
      obtain ⟨g1, i1, R, h1, h2, h3, h4⟩ := h.at' k hk
      rw [hv] at h1; injection h1 with h1; injection h1 with e1 e2 _; subst e1 e2
      refine ⟨g, i + ((S k).length - 1), R, ?_, h2, ?_, ?_⟩
      · rw [geq]; simp [hlo]
      · simp only [if_true, hlo]; omega
      · simp only [if_true, hlo]
        have := congrArg (List.drop ((S k).length - 1)) h4
        rw [List.drop_take, List.drop_drop] at this
        rw [show (S k).length - ((S k).length - 1) = 1 by omega] at this
        rw [this]
        simp [secs, lastOf, List.map_drop]
    · obtain ⟨g1, i1, R, h1, h2, h3⟩ := h.at' k hk
      simp only [if_neg hka]
      exact ⟨g1, i1, R, by rw [gne hka]; exact h1, h2, h3⟩
  · rw [gne (by omega)]; exact h.nil k hk hk6
  · by_cases hja : j = a
    · subst hja
      rw [geq] at hj
      injection hj with hj; injection hj with hj _ _; subst hj
      rw [gne (Ne.symm hjk)] at hk
      exact h.ne _ _ _ _ _ _ _ hjk hv hk
    · rw [gne hja] at hj
      by_cases hka : k = a
      · subst hka
        rw [geq] at hk
        injection hk with hk; injection hk with hk _ _; subst hk
        exact h.ne _ _ _ _ _ _ _ hjk hj hv
      · rw [gne hka] at hk
        exact h.ne j k g2 i2 n i' n' hjk hj hk
end
/-- The disk and what was seen, in memory. -/
def LastAt (m d c : Nat) (D : Dsk) (S : Nat → List (List Nat)) (B : Heap) : Prop := ∃ A vs, DskAt A d D B ∧ SeenAt m A vs S ∧ A c = some (.var T_6_L_256_uint8 vs)
theorem w_DiskLasts {l : List DOpr} {keep : List Bool} (ho : OpsOK l) : Gives Try.prog F_law06_DiskLasts [.dsl 4 (dops l), .dsl 1 (bls keep)] (.bool true) := by
  refine v_law06_DiskLasts (by simp) ?_
  simp -implicitDefEqProofs [a_law06_DiskLasts, q_law06_DiskLasts_0, q_law06_DiskLasts_1]
  refine w_law06_light.call (.cons (.refl _) rfl .nil) rfl ?_
  cases hli : lightB l
  · simp -implicitDefEqProofs [q_law06_DiskLasts_2]
    refine w_law06_works.call .nil rfl ?_
    simp -implicitDefEqProofs [outOf]
  have hl80 := light_len hli
  by_cases hk100 : 100 < keep.length
  · have hk' : 100 < (keep.length : Int) := by omega
    simp -implicitDefEqProofs [hk', q_law06_DiskLasts_2]
    refine w_law06_works.call .nil rfl ?_
    simp -implicitDefEqProofs [outOf]
  have hk' : ¬ 100 < (keep.length : Int) := by omega
  simp -implicitDefEqProofs [hk', q_law06_DiskLasts_3]
  refine w_disk_New (fun h => absurd (by decide) h) fun _ d B0 h0 => ?_
  rw [show Int.toNat 6 = 6 from rfl] at h0
  simp -implicitDefEqProofs [q_law06_DiskLasts_4, pop, nilOf, q_law06_DiskLasts_6]
  intro g7 h7
  have h1 := h0.rebase (c := .var 77 [.nilS, .nilS, .nilS, .nilS, .nilS, .nilS]) h7
  have hs0 : SeenOK (Dsk.fresh 6) (fun _ => [z256]) := ⟨rfl, ⟨rfl, rfl⟩, fun k hk => by
    have : (Dsk.fresh 6).last[k] = z256 := List.eq_of_mem_replicate (List.getElem_mem hk)
    rw [this]; rfl⟩
  obtain ⟨D0, hD0⟩ : ∃ x, Dsk.fresh 6 = x := ⟨_, rfl⟩
  have hd0 : D0.steps = 0 ∧ D0.wait.length = 0 := by rw [← hD0]; exact ⟨rfl, rfl⟩
  rw [hD0] at h1 hs0
  have hsa : SeenAt 0 (H0.set g7 (.var 77 [.nilS, .nilS, .nilS, .nilS, .nilS, .nilS])) [.nilS, .nilS, .nilS, .nilS, .nilS, .nilS] (fun _ => [z256]) := by
    refine ⟨rfl, fun k hk => (by omega), fun k _ hk => ?_, fun j k g i n i' n' _ hj _ => ?_⟩
    · have : k = 0 ∨ k = 1 ∨ k = 2 ∨ k = 3 ∨ k = 4 ∨ k = 5 := by omega
      rcases this with rfl | rfl | rfl | rfl | rfl | rfl <;> rfl
    · have hm := List.mem_of_getElem? hj
      simp at hm
  simp -implicitDefEqProofs [q_law06_DiskLasts_7]
  refine X_lp (fun (i : Nat) env B => i ≤ 6 ∧ env 0 = .dsl 4 (dops l) ∧ env 1 = .dsl 1 (bls keep) ∧ env 5 = .ptr d 0 ∧ env 7 = .ptr g7 0 ∧ env 8 = .int .i64 i ∧ LastAt i d g7 D0 (fun _ => [z256]) B) (fun i => 6 - i) 0
    ⟨by omega, by simp, by simp, by simp, by simp, by simp, _, _, h1, hsa, set_eq'⟩ ?_
  clear h0 h1 hsa h7 hD0
  rintro i env B ⟨hi, e0, e1, e5, e7, e8, A, vs, hd, hsn, a7⟩
  by_cases hi6 : i < 6
  · have hi6' : (i : Int) < 6 := by omega
    have wi : IntKind.i64.wrap ((i : Int) + 1) = (i : Int) + 1 := wrap_i64 (by omega)
    simp -implicitDefEqProofs [q_law06_DiskLasts_L11, q_law06_DiskLasts_8, q_law06_DiskLasts_9, e8, hi6']
    refine (w_law06_Filled (b := 0) (by decide)).call (.cons (.refl _) rfl .nil) rfl ?_
    rw [filled0]
    have b7 := hd.sub _ _ a7
    obtain ⟨hT, hD1, _, _⟩ := hsn.td hi6 (hsn.nil i (Nat.le_refl _) hi6)
    simp -implicitDefEqProofs [secV, -List.reduceReplicate]
    intro g41 h41
    have hE := hsn.eqs hi6 (.own g41 0 1)
    have n7 := fresh_ne b7 h41
    have hA41 := sub_noneL hd.sub h41
    simp -implicitDefEqProofs [e7, hi6, hi6', b7, n7, hT, hD1, hE, q_law06_DiskLasts_10, e8, wi]
    have hput := hsn.put (a := i) (g' := g41) (T := [z256]) (m' := i + 1) (B' := A.set g41 (.row 78 256 (secs [z256]))) hi6 (fun k i' n' e => by
        by_cases hk : k < i
        · obtain ⟨g, i2, R, q1, q2, _⟩ := hsn.at' k hk
          rw [q1] at e; injection e with e; injection e with e _ _; subst e
          rw [hA41] at q2; cases q2
        · by_cases hk6 : k < 6
          · rw [hsn.nil k (by omega) hk6] at e; cases e
          · rw [List.getElem?_eq_none (by rw [hsn.len]; omega)] at e; cases e)
      set_eq' (fun x c hx _ => by rw [Heap.set_ne _ _ (fresh_ne hx hA41)]; exact hx) (fun k hk => by omega) (fun k hk => by omega)
    have hfun : (fun k => if k = i then [z256] else [z256]) = (fun _ : Nat => [z256]) := by funext k; split <;> rfl
    rw [hfun] at hput
    have a7' : (A.set g41 (.row 78 256 (secs [z256]))) g7 = some (.var 77 vs) := by rw [Heap.set_ne _ _ n7]; exact a7
    have hd2 := (hd.rebase (c := .row 78 256 (secs [z256])) h41).poke (c := .var 77 (vs.set i (.own g41 0 1))) a7'
    have hput2 : SeenAt (i + 1) ((A.set g41 (.row 78 256 (secs [z256]))).set g7 (.var 77 (vs.set i (.own g41 0 1)))) (vs.set i (.own g41 0 1)) (fun _ => [z256]) := hput.poke a7'
    exact lp_next (i + 1) ⟨by omega, by simp [e0], by simp [e1], by simp [e5], by simp [e7], by simp, _, _, hd2, hput2, set_eq'⟩ (by omega)
  · have hie : i = 6 := by omega
    subst hie
    simp -implicitDefEqProofs [q_law06_DiskLasts_L11, q_law06_DiskLasts_8, q_law06_DiskLasts_11, e8]
    refine X_lp (fun (i : Nat) env B => i ≤ l.length ∧ env 0 = .dsl 4 (dops l) ∧ env 1 = .dsl 1 (bls keep) ∧ env 5 = .ptr d 0 ∧ env 7 = .ptr g7 0 ∧ env 9 = .int .i64 i ∧
        ∃ D S, SeenOK D S ∧ D.steps ≤ i ∧ D.wait.length ≤ i ∧ LastAt 6 d g7 D S B) (fun i => l.length - i) 0
      ⟨by omega, by simp [e0], by simp [e1], by simp [e5], by simp [e7], by simp, D0, (fun _ => [z256]), hs0, by omega, by omega, A, vs, hd, hsn, a7⟩ ?_
    clear e0 e1 e5 e7 e8 hd hsn a7 hd0 hs0 hi6 hi
    rintro i env B ⟨hi, e0, e1, e5, e7, e9, D, S, hS, hst, hwl, A, vs, hd, hsn, a7⟩
    by_cases hil : i < l.length
    · have hil' : (i : Int) < l.length := by omega
      have wi : IntKind.i64.wrap ((i : Int) + 1) = (i : Int) + 1 := wrap_i64 (by omega)
      have ho' := ho _ (List.getElem_mem hil)
      obtain ⟨o, hoo⟩ : ∃ o, l[i] = o := ⟨_, rfl⟩
      rw [hoo] at ho'
      by_cases k01 : o.kind = 0 ∨ o.kind = 1
      · have hok := hS.ok
        rcases k01 with k0 | k0
        all_goals
          simp -implicitDefEqProofs [q_law06_DiskLasts_L26, q_law06_DiskLasts_12, q_law06_DiskLasts_13, q_law06_DiskLasts_14, q_law06_DiskLasts_15, q_law06_DiskLasts_16, e0, e1, e5, e7, e9, hil, hil', dops_getE, hoo, dopV, k0]
          refine (w_law06_Filled ho'.1).call (.cons (.refl _) rfl .nil) rfl ?_
          simp -implicitDefEqProofs [Sub_refl, secV]
          refine w_disk_Write (s := filled o.b) hd (by omega) (by omega) (filled_sec ho'.1) fun B2 hd2 => ?_
          by_cases hin : D.inside o.at' = true
          · rw [if_pos hin] at hd2
            rw [if_pos hin, hok]
            simp only [Dsk.inside, Bool.and_eq_true, decide_eq_true_eq, hS.six] at hin
            obtain ⟨n, hn⟩ : ∃ n : Nat, o.at' = n := ⟨o.at'.toNat, by omega⟩
            have hn6 : n < 6 := by omega
            have hn6' : (n : Int) < 6 := by omega
            rw [hn, Int.toNat_natCast] at hd2
            have hS2 := hS.write n (filled o.b)
            have hgr := step_grows D
            have hwst : (D.write n (filled o.b)).steps ≤ i + 1 := by unfold Dsk.write; rw [if_pos hok]; show D.step.steps ≤ _; omega
            have hwwl : (D.write n (filled o.b)).wait.length ≤ i + 1 := by unfold Dsk.write; rw [if_pos hok]; show (D.wait ++ [(n, filled o.b)]).length ≤ _; simp; omega
            obtain ⟨D2, hD2⟩ : ∃ x, D.write n (filled o.b) = x := ⟨_, rfl⟩
            rw [hD2] at hd2 hS2 hwst hwwl
            obtain ⟨gn, ip, R, v1, v2, v3, v4⟩ := hsn.at' n hn6
            have b7 := hd2.sub _ _ a7
            have bn := hd2.sub _ _ v2
            obtain ⟨hT, hD1, hD0, hT1⟩ := hsn.td hn6 v1
            simp -implicitDefEqProofs [codeOf, q_law06_DiskLasts_17, e0, e7, e9, hil, hil', dops_getE, hoo, dopV, hn, hn6, hn6', b7, hD0, hT1]
            refine (w_law06_Filled ho'.1).call (.cons (.refl _) rfl .nil) rfl ?_
            simp -implicitDefEqProofs [Sub_refl, secV]
            intro g89 h89
            have y7 := fresh_ne b7 h89
            have yn := fresh_ne bn h89
            have hA89 := sub_noneL hd2.sub h89
            refine aapp_part (ys := [secV (filled o.b)]) (R := R) (by rw [Heap.set_ne _ _ yn]; exact bn) v3 (src_row set_eq' rfl) (by simp [secV]) (by have := (hS.len hn6).1; simp; omega) fun g' hg' => ?_
            have hr1 := hd2.rebase (c := .row 78 256 [secV (filled o.b)]) h89
            have an' : (A.set g89 (.row 78 256 [secV (filled o.b)])) gn = some (.row T_256_uint8 256 R) := by rw [Heap.set_ne _ _ yn]; exact v2
            have a7' : (A.set g89 (.row 78 256 [secV (filled o.b)])) g7 = some (.var 77 vs) := by rw [Heap.set_ne _ _ y7]; exact a7
            have n7n : g7 ≠ gn := by rintro rfl; rw [a7] at v2; cases v2
            have g7' : g7 ≠ g' := fresh_ne (hr1.sub _ _ a7') hg'
            have hgn' : gn ≠ g' := fresh_ne (hr1.sub _ _ an') hg'
            have hr2 := (hr1.del an').rebase (x := g') (c := .row 78 256 ((R.drop ip).take (S n).length ++ [secV (filled o.b)])) (by rw [del_app]; split; rfl; exact hg')
            rw [v4] at hr2 ⊢
            have hE := hsn.eqs hn6 (.own g' 0 ((S n).length + 1))
            have q7 : (((B2.set g89 (.row 78 256 [.iarr .u8 256 (ints (filled o.b))])).del gn).set g' (.row 78 256 (secs (S n) ++ [.iarr .u8 256 (ints (filled o.b))]))) g7 = some (.var 77 vs) := by
              rw [Heap.set_ne _ _ g7', del_app, if_neg n7n, Heap.set_ne _ _ y7]; exact b7
            simp -implicitDefEqProofs [e7, hn6, hn6', q7, hT, hD1, hE, q_law06_DiskLasts_25, e9, wi, secV]
            have hg'B : B2 g' = none ∧ g' ≠ g89 := by
              rw [set_none] at hg'; exact ⟨hg'.2.2, hg'.1⟩
            have hAg' : A g' = none := sub_noneL hd2.sub hg'B.1
            have hput := hsn.put (a := n) (g' := g') (T := S n ++ [filled o.b]) (m' := 6) (B' := ((A.set g89 (.row 78 256 [secV (filled o.b)])).del gn).set g' (.row 78 256 (secs (S n) ++ [secV (filled o.b)]))) hn6 (fun k i' n' e => by
                by_cases hk : k < 6
                · obtain ⟨g, i2, R2, q1, q2, _⟩ := hsn.at' k hk
                  rw [q1] at e; injection e with e; injection e with e _ _; subst e
                  rw [hAg'] at q2; cases q2
                · rw [List.getElem?_eq_none (by rw [hsn.len]; omega)] at e; cases e)
              (by rw [set_eq']; simp [secs]) (fun x c hx hne => by
                have x1 : x ≠ gn := by rintro rfl; exact hne _ _ v1
                rw [Heap.set_ne _ _ (fresh_ne hx hAg'), del_app, if_neg x1, Heap.set_ne _ _ (fresh_ne hx hA89)]; exact hx) (fun k hk => .inr hk) (fun k hk => ⟨hk, by omega⟩)
            rw [List.length_append, List.length_singleton] at hput
            have p7 : (((A.set g89 (.row 78 256 [secV (filled o.b)])).del gn).set g' (.row 78 256 (secs (S n) ++ [secV (filled o.b)]))) g7 = some (.var 77 vs) := by
              rw [Heap.set_ne _ _ g7', del_app, if_neg n7n]; exact a7'
            have hfun : (fun k => if k = n then S n ++ [filled o.b] else S k) = (fun k => if k = n then S k ++ [filled o.b] else S k) := by
              funext k; split
              · rename_i e; subst e; rfl
              · rfl
            rw [hfun] at hput
            exact lp_next (i + 1) ⟨by omega, by simp [e0], by simp [e1], by simp [e5], by simp [e7], by simp, D2, _, hS2, hwst, hwwl, _, _, hr2.poke p7, hput.poke p7, set_eq'⟩ (by omega)
          · rw [if_neg hin] at hd2
            rw [if_neg hin]
            simp -implicitDefEqProofs [q_law06_DiskLasts_25, e9, wi]
            exact lp_next (i + 1) ⟨by omega, by simp [e0], by simp [e1], by simp [e5], by simp [e7], by simp, D, S, hS, by omega, by omega, A, vs, hd2, hsn, a7⟩ (by omega)
      · have k0 : ¬ o.kind = 0 := fun e => k01 (.inl e)
        have k1 : ¬ o.kind = 1 := fun e => k01 (.inr e)
        by_cases k3 : o.kind = 3
        · simp -implicitDefEqProofs [q_law06_DiskLasts_L26, q_law06_DiskLasts_12, q_law06_DiskLasts_13, q_law06_DiskLasts_14, q_law06_DiskLasts_15, q_law06_DiskLasts_18, q_law06_DiskLasts_19, e0, e1, e5, e7, e9, hil, hil', dops_getE, hoo, dopV, k3]
          refine w_disk_Flush hd (by omega) (by omega) fun B2 hd2 => ?_
          have hok := hS.ok
          have hS2 := hS.flush
          have hgr := step_grows D
          have hfst : D.flush.steps ≤ i + 1 := by unfold Dsk.flush; rw [if_pos hok]; show D.step.steps ≤ _; omega
          have hfwl : D.flush.wait.length ≤ i + 1 := by unfold Dsk.flush; rw [if_pos hok]; simp [Dsk.settle]
          rw [hok]
          obtain ⟨D2, hD2⟩ : ∃ x, D.flush = x := ⟨_, rfl⟩
          rw [hD2] at hd2 hS2 hfst hfwl
          simp -implicitDefEqProofs [codeOf, q_law06_DiskLasts_21]
          refine X_lp (fun (k : Nat) env X => k ≤ 6 ∧ env 0 = .dsl 4 (dops l) ∧ env 1 = .dsl 1 (bls keep) ∧ env 5 = .ptr d 0 ∧ env 7 = .ptr g7 0 ∧ env 9 = .int .i64 i ∧ env 10 = .int .i64 k ∧ LastAt 6 d g7 D2 (fun j => if j < k then lastOf (S j) else S j) X) (fun k => 6 - k) 0
            ⟨by omega, by simp [e0], by simp [e1], by simp [e5], by simp [e7], by simp [e9], by simp, A, vs, hd2, by simpa using hsn, a7⟩ ?_
          clear hd2 hsn a7 e0 e1 e5 e7 e9
          rintro k env X ⟨hk6, e0, e1, e5, e7, e9, e10, A2, us, hdX, hsX, a7⟩
          by_cases hk : k < 6
          · have hkc : (k : Int) < 6 := by omega
            have wk : IntKind.i64.wrap ((k : Int) + 1) = (k : Int) + 1 := wrap_i64 (by omega)
            obtain ⟨gk, ip, R, v1, v2, v3, v4⟩ := hsX.at' k hk
            simp only [Nat.lt_irrefl, if_false] at v1 v3 v4
            obtain ⟨hl1, hl2⟩ := hS.len hk
            obtain ⟨hT, hD1, hD0, hT1⟩ := hsX.td hk v1
            have b7 := hdX.sub _ _ a7
            have bk := hdX.sub _ _ v2
            have wl : IntKind.i64.wrap (((S k).length : Int) - 1) = (((S k).length - 1 : Nat) : Int) := by rw [wrap_i64 (by omega)]; omega
            obtain ⟨m1, hm1⟩ : ∃ m, (S k).length - 1 = m := ⟨_, rfl⟩
            have hml : (S k).length = m1 + 1 := by omega
            rw [hm1] at wl
            simp -implicitDefEqProofs [q_law06_DiskLasts_L25, q_law06_DiskLasts_22, q_law06_DiskLasts_23, q_law06_DiskLasts_24, e7, e10, hk, hkc, b7, hD0, hT1, wl, bk, wk]
            have e1' : (S k).length - m1 = 1 := by omega
            have hE := hsX.eqs hk (.own gk (ip + m1) 1)
            simp -implicitDefEqProofs [e1', hT, hD1, hE]
            have hcut := hsX.cut hk hk (g := gk) (i := ip) (by simp only [Nat.lt_irrefl, if_false]; exact v1) (by simp only [Nat.lt_irrefl, if_false]; exact hl2)
            simp only [Nat.lt_irrefl, if_false, hm1] at hcut
            have hcut2 := hcut.congr (S' := fun j => if j < k + 1 then lastOf (S j) else S j) fun j _ => by
              by_cases e : j = k
              · subst e; simp
              · by_cases e2 : j < k
                · simp [e, e2, Nat.lt_succ_of_lt e2]
                · have : ¬ j < k + 1 := by omega
                  simp [e, e2, this]
            refine ⟨by omega, lp_next (k + 1) ⟨by omega, by simp [e0], by simp [e1], by simp [e5], by simp [e7], by simp [e9], by simp, _, _, hdX.poke a7, hcut2.poke a7, set_eq'⟩ (by omega)⟩
          · have hke : k = 6 := by omega
            subst hke
            simp -implicitDefEqProofs [q_law06_DiskLasts_L25, q_law06_DiskLasts_22, q_law06_DiskLasts_25, e9, e10, wi]
            exact lp_next (i + 1) ⟨by omega, by simp [e0], by simp [e1], by simp [e5], by simp [e7], by simp, D2, _, hS2, hfst, hfwl, A2, us, hdX, hsX.congr (fun j hj => by simp [hj]), a7⟩ (by omega)
        · simp -implicitDefEqProofs [q_law06_DiskLasts_L26, q_law06_DiskLasts_12, q_law06_DiskLasts_13, q_law06_DiskLasts_14, q_law06_DiskLasts_15, q_law06_DiskLasts_18, q_law06_DiskLasts_25, e0, e1, e5, e7, e9, hil, hil', dops_getE, hoo, dopV, k0, k1, k3, wi]
          exact lp_next (i + 1) ⟨by omega, by simp [e0], by simp [e1], by simp [e5], by simp [e7], by simp, D, S, hS, by omega, by omega, A, vs, hd, hsn, a7⟩ (by omega)
    · have hie : i = l.length := by omega
      subst hie
      simp -implicitDefEqProofs [q_law06_DiskLasts_L26, q_law06_DiskLasts_12, q_law06_DiskLasts_26, e0, e1, e5, e7, e9]
      refine w_disk_Crash hd (by omega) (.inl rfl) fun B2 hd2 => ?_
      have hcr := hS.crash keep
      have hwfD := hd.wf
      have hD6 : (D.crash keep).last.length = 6 := by simp [Dsk.crash, Dsk.settle, hS.six]
      have hDw : (D.crash keep).wait = [] := rfl
      have hDd : (D.crash keep).down = false := rfl
      obtain ⟨D2, hD2⟩ : ∃ x, D.crash keep = x := ⟨_, rfl⟩
      rw [hD2] at hd2 hcr hD6 hDw hDd
      clear hd
      simp -implicitDefEqProofs [q_law06_DiskLasts_27]
      refine X_lp (fun (k : Nat) env X => k ≤ 6 ∧ env 5 = .ptr d 0 ∧ env 7 = .ptr g7 0 ∧ env 11 = .int .i64 k ∧ LastAt 6 d g7 D2 S X) (fun k => 6 - k) 0
        ⟨by omega, by simp [e5], by simp [e7], by simp, A, vs, hd2, hsn, a7⟩ ?_
      clear hd2 hsn a7 e0 e1 e5 e7 e9
      rintro k env X ⟨hk6, e5, e7, e11, A2, us, hdX, hsX, a7⟩
      by_cases hk : k < 6
      · have hkc : (k : Int) < 6 := by omega
        have wk : IntKind.i64.wrap ((k : Int) + 1) = (k : Int) + 1 := wrap_i64 (by omega)
        obtain ⟨s, hs1, hs2⟩ := hcr k hk
        have hwf := hdX.wf
        have hss : Sec s := hwf.last s (List.mem_of_getElem? hs1)
        have hrd : D2.rd (k : Int) = (s, 0) := by
          have hin : D2.inside (k : Int) = true := by simp [Dsk.inside, hD6, hkc]
          unfold Dsk.rd
          rw [hin, hDd]
          simp only [if_true, Int.toNat_natCast]
          unfold Dsk.val look
          rw [hDw, List.getD_eq_getElem?_getD, hs1]; rfl
        obtain ⟨hl1, hl2⟩ := hS.len hk
        simp -implicitDefEqProofs [q_law06_DiskLasts_L38, q_law06_DiskLasts_28, q_law06_DiskLasts_29, e5, e7, e11, hkc]
        refine w_disk_Read hdX fun X2 hX2 => ?_
        rw [hrd]
        simp -implicitDefEqProofs [secV, -List.reduceReplicate]
        intro g12 h12
        have hdX2 := (hdX.mono hX2).rebase (c := .var 78 [.iarr .u8 256 (ints s)]) h12
        have hA12 := sub_noneL (hdX.mono hX2).sub h12
        have hsX2 := hsX.mono (sub_none (c := .var 78 [.iarr .u8 256 (ints s)]) hA12)
        have a7' : (A2.set g12 (.var 78 [.iarr .u8 256 (ints s)])) g7 = some (.var 77 us) := by rw [Heap.set_ne _ _ (fresh_ne a7 hA12)]; exact a7
        have a12 : (A2.set g12 (.var 78 [.iarr .u8 256 (ints s)])) g12 = some (.var 78 [.iarr .u8 256 (ints s)]) := set_eq'
        obtain ⟨gk, ip, R, v1, v2, v3, v4⟩ := hsX2.at' k hk
        obtain ⟨hT, hD1, hD0', hT1⟩ := hsX2.td hk v1
        have b7 := hdX2.sub _ _ a7'
        have b12 := hdX2.sub _ _ a12
        have bk := hdX2.sub _ _ v2
        simp -implicitDefEqProofs [q_law06_DiskLasts_30, q_law06_DiskLasts_31, -List.reduceReplicate]
        obtain ⟨Y, hY⟩ : ∃ Y, X2.set g12 (.var 78 [.iarr .u8 256 (ints s)]) = Y := ⟨_, rfl⟩
        rw [hY] at hdX2 b7 b12 bk ⊢
        have hall := hS.sec hwfD hk
        refine X_lp (fun (j : Nat) env Z => j ≤ (S k).length ∧ env 5 = .ptr d 0 ∧ env 7 = .ptr g7 0 ∧ env 11 = .int .i64 k ∧ env 12 = .ptr g12 0 ∧ env 13 = .int .i64 0 ∧ env 14 = .bool (((S k).take j).contains s) ∧ env 15 = .int .i64 j ∧ Z = Y) (fun j => (S k).length - j) 0
          ⟨by omega, by simp [e5], by simp [e7], by simp [e11], by simp, by simp, by simp, by simp, rfl⟩ ?_
        rintro j env Z ⟨hj, e5, e7, e11, e12, e13, e14, e15, rfl⟩
        by_cases hjl : j < (S k).length
        · have hjl' : (j : Int) < (S k).length := by omega
          have wj : IntKind.i64.wrap ((j : Int) + 1) = (j : Int) + 1 := wrap_i64 (by omega)
          have hR : R[ip + j]? = some (secV (S k)[j]) := by
            have h0 := congrArg (fun x : List AV => x[j]?) v4
            simp only [List.getElem?_take, List.getElem?_drop, hjl, if_true, secs_get hjl] at h0
            exact h0
          have hipj : ip + j < R.length := (List.getElem?_eq_some_iff.1 hR).1
          rw [List.getElem?_eq_getElem hipj] at hR
          injection hR with hR
          have heq := secV_eq (hall _ (List.getElem_mem hjl)) hss
          have htk : ((S k).take (j + 1)).contains s = (((S k).take j).contains s || (S k)[j] == s) := by
            rw [List.take_succ_eq_append_getElem hjl]
            simp only [List.contains_append, List.contains_cons, List.contains_nil, Bool.or_false]
            congr 1
            rw [Bool.beq_comm]
          cases hct : ((S k).take j).contains s
          · rw [hct] at e14 htk
            cases hb : ((S k)[j] == s)
            · rw [hb] at heq htk
              simp -implicitDefEqProofs [q_law06_DiskLasts_L35, q_law06_DiskLasts_32, q_law06_DiskLasts_33, q_law06_DiskLasts_34, e5, e7, e11, e12, e13, e14, e15, hk, hkc, hjl, hjl', b7, hD0', hT1, bk, b12, hR, secV, hipj, heq, wj]
              exact lp_next (j + 1) ⟨by omega, by simp [e5], by simp [e7], by simp [e11], by simp [e12], by simp [e13], by simpa using htk, by simp, rfl⟩ (by omega)
            · rw [hb] at heq htk
              simp -implicitDefEqProofs [q_law06_DiskLasts_L35, q_law06_DiskLasts_32, q_law06_DiskLasts_33, q_law06_DiskLasts_34, e5, e7, e11, e12, e13, e14, e15, hk, hkc, hjl, hjl', b7, hD0', hT1, bk, b12, hR, secV, hipj, heq, wj]
              exact lp_next (j + 1) ⟨by omega, by simp [e5], by simp [e7], by simp [e11], by simp [e12], by simp [e13], by simpa using htk, by simp, rfl⟩ (by omega)
          · rw [hct] at e14 htk
            simp -implicitDefEqProofs [q_law06_DiskLasts_L35, q_law06_DiskLasts_32, q_law06_DiskLasts_33, q_law06_DiskLasts_34, e5, e7, e11, e12, e13, e14, e15, hk, hkc, hjl, hjl', b7, hD0', hT1, wj]
            exact lp_next (j + 1) ⟨by omega, by simp [e5], by simp [e7], by simp [e11], by simp [e12], by simp [e13], by simpa using htk, by simp, rfl⟩ (by omega)
        · have hje : j = (S k).length := by omega
          subst hje
          have hct : (S k).contains s = true := by simpa using hs2
          rw [List.take_length, hct] at e14
          simp -implicitDefEqProofs [q_law06_DiskLasts_L35, q_law06_DiskLasts_32, q_law06_DiskLasts_35, e5, e7, e11, e12, e13, e14, e15, hk, hkc, b7, hD0', hT1, b12, Sub_refl]
          refine w_disk_Image hdX2 fun gi W hW => ?_
          obtain ⟨_, hgi, _, _⟩ := hW.at
          have hkl : k < D2.last.length := by omega
          have hkl' : (k : Int) < D2.last.length := by omega
          have hsk : D2.last[k] = s := by rw [List.getElem?_eq_getElem hkl] at hs1; injection hs1
          have heq := secV_eq hss hss
          rw [beq_self_eq_true] at heq
          have w12 := hW.sub _ _ b12
          simp -implicitDefEqProofs [hW.sub, hgi, hkl, hkl', hD6, hk, hkc, secs_getE, hsk, secV, heq, q_law06_DiskLasts_37, e11, wk]
          exact lp_next (k + 1) ⟨by omega, by simp [e5], by simp [e7], by simp, _, us, hdX2.mono hW.sub, hsX2, a7'⟩ (by omega)
      · have hke : k = 6 := by omega
        subst hke
        simp -implicitDefEqProofs [q_law06_DiskLasts_L38, q_law06_DiskLasts_28, q_law06_DiskLasts_38, e5, e11]
        refine w_disk_Waits hdX ?_
        rw [hDw]
        simp -implicitDefEqProofs
        refine w_law06_works.call .nil rfl ?_
        simp -implicitDefEqProofs [outOf]
end Go.Proofs.Ytjbiekcldkjgjaa
