/- Texts of this claim, in order: Sc Sd Se Sf Sg Sh Gdisk SKa SKb SKc SKd Si Sj Sk Sl Sm Sn So Sp. -/
import Derived.Test.YtilgdnbijkcboaaSk1
import Derived.Test.YtilgdnbijkcboaaL4
/- The walk of super.Put. -/
namespace Go.Proofs.Ytilgdnbijkcboaa
open Go AVL
attribute [-simp] AV.isAgg aappI aapp alen List.reduceReplicate
set_option linter.unusedVariables false
set_option linter.unusedSimpArgs false
set_option maxRecDepth 8000

def mkN : List Nat := [77, 79, 82, 84, 77, 65, 73, 78]
theorem w_super_mark : Gives Try.prog F_super_mark [] (.iarr .u8 8 (ints mkN)) := by
  refine v_super_mark (by simp) ?_
  simp -implicitDefEqProofs [a_super_mark, q_super_mark_0, q_super_mark_1]
  intro g1 g2 h1 h2
  simp -implicitDefEqProofs [h1, h2, outOf, mkN, ints]
/-- A super's bytes. -/
def supB (s t c a n : Nat) : List Nat := mkN ++ (le 2 s ++ (le 2 t ++ (le 2 c ++ (le 2 a ++ le 8 n))))
theorem supB_bytes (s t c a n : Nat) : Bytes (supB s t c a n) := bytes_append (by unfold Bytes mkN; decide) (bytes_append (le_bytes _ _) (bytes_append (le_bytes _ _) (bytes_append (le_bytes _ _) (bytes_append (le_bytes _ _) (le_bytes _ _)))))
def zz256 : List Nat := List.replicate 256 0
def supV (s t c a n : Int) : AV := .agg [.int .i64 s, .int .i64 t, .int .i64 c, .int .i64 a, .int .i64 n]
def supC (s t c a n : Int) : Int := if planCode s t c a ≠ 0 then planCode s t c a else if n < 0 ∨ 1099511627776 < n then 2 else 0
def supS (s t c a n : Int) : List Nat := if supC s t c a n = 0 then sealN (supB s.toNat t.toNat c.toNat a.toNat n.toNat) else zz256
theorem zz256_ints : (List.replicate 256 (0 : Int)) = ints zz256 := by simp [ints, zz256]
/-- What is written into: the mark's array at first, then a row. -/
def WrV (g5 : Nat) (A : Heap) (v : AV) (l : List Nat) (B : Heap) : Prop := (v = .asl g5 0 8 0 8 ∧ l = mkN ∧ A.Sub B) ∨ SlS T_uint8 .u8 v (ints l) A B
theorem WrV.app {g5 t5 : Nat} {A B C : Heap} {v : AV} {l ys : List Nat} {g' : Nat} {K : AV → Heap → Prop} (h5 : A g5 = some (.var t5 [.iarr .u8 8 (ints mkN)])) (h : WrV g5 A v l B) (hg' : B g' = none) (hC : C = B.set g' (.irow T_uint8 .u8 (ints ys))) (hp : 0 < ys.length) (hb : l.length + ys.length < 2 ^ 40)
    (hk : ∀ v' C', SlS T_uint8 .u8 v' (ints (l ++ ys)) A C' → v'.isAgg = false → K v' C') : aappI T_uint8 .u8 1 v (.own g' 0 ys.length) C K := by
  subst hC
  rcases h with ⟨rfl, rfl, hs⟩ | h
  · have hB5 := hs _ _ h5
    have n5 : g5 ≠ g' := fun e => by rw [e, hg'] at hB5; cases hB5
    refine aappI_arr (l := ints mkN) (ys := ints ys) (by rw [set_ne' n5]; exact hB5) rfl rfl (fun Q hQ => srcI_row set_eq' (by simp) Q hQ) (by simpa using hp) (by simp; omega) fun v' C' h1 h2 => hk v' C' ?_ h2
    rw [show ints (mkN ++ ys) = ints mkN ++ ints ys by simp]
    exact h1.base (sub_new hs hg')
  · have hl : ys.length = (ints ys).length := by simp
    rw [hl]
    refine h.app (ys := ints ys) set_eq' (sub_none hg') hg' (by simp; omega) fun v' C' h1 h2 => hk v' C' ?_ h2
    rw [show ints (l ++ ys) = ints l ++ ints ys by simp]
    exact h1
theorem idx4 {L : List Nat} (h : L.length = 4) {i : Nat} (hi : i < 4) : getC [.iarr .i64 4 (ints L)] i 1 .sc = some (.int .i64 ((L[i]?.getD 0 : Nat) : Int)) := by
  rcases (by omega : i = 0 ∨ i = 1 ∨ i = 2 ∨ i = 3) with rfl | rfl | rfl | rfl <;> simp [getC]
theorem flat2 : ∀ L : List Nat, ((L.map (le 2)).flatten).length = 2 * L.length
  | [] => rfl
  | x :: L => by rw [List.map_cons, List.flatten_cons, List.length_append, flat2 L, le_length, List.length_cons]; omega
structure PutU (A : Heap) (g1 g2 g5 : Nat) (L : List Nat) (i : Nat) (env : AEnv) (B : Heap) : Prop where
  lei : i ≤ 4
  e1 : env 1 = .ptr g1 0
  e2 : env 2 = .ptr g2 0
  e40 : env 40 = .iarr .i64 4 (ints L)
  e41 : env 41 = .int .i64 i
  w : WrV g5 A (env 6) (mkN ++ ((L.take i).map (le 2)).flatten) B
theorem w_super_Put_ok {s t c a n : Nat} (hp : planOk s t c a) (hn : n ≤ 1099511627776) : Gives Try.prog F_super_Put [supV s t c a n] (.tuple [.iarr .u8 256 (ints (sealN (supB s t c a n))), .int .i64 0]) := by
  refine v_super_Put (by simp) ?_
  unfold a_super_Put supV
  obtain ⟨⟨s1, s2⟩, ⟨t1, t2⟩, ⟨c1, c2⟩, ⟨a1, a2⟩⟩ := id hp
  have hpc : planCode s t c a = 0 := if_pos hp
  have hck := w_plan_Check s t c a
  rw [hpc] at hck
  unfold planV at hck
  obtain ⟨r2, hr2⟩ : ∃ r, r = q_super_Put_2 := ⟨_, rfl⟩; rw [← hr2]
  obtain ⟨r4, hr4⟩ : ∃ r, r = q_super_Put_4 := ⟨_, rfl⟩; rw [← hr4]
  obtain ⟨r6, hr6⟩ : ∃ r, r = q_super_Put_6 := ⟨_, rfl⟩; rw [← hr6]
  obtain ⟨r7, hr7⟩ : ∃ r, r = q_super_Put_7 := ⟨_, rfl⟩; rw [← hr7]
  obtain ⟨r8, hr8⟩ : ∃ r, r = q_super_Put_8 := ⟨_, rfl⟩; rw [← hr8]
  obtain ⟨r13, hr13⟩ : ∃ r, r = q_super_Put_13 := ⟨_, rfl⟩; rw [← hr13]
  obtain ⟨r14, hr14⟩ : ∃ r, r = q_super_Put_14 := ⟨_, rfl⟩; rw [← hr14]
  obtain ⟨r15, hr15⟩ : ∃ r, r = q_super_Put_15 := ⟨_, rfl⟩; rw [← hr15]
  simp -implicitDefEqProofs [q_super_Put_0, q_super_Put_1]
  intro g1 g2 n1 n2
  simp -implicitDefEqProofs [n1, n2]
  refine hck.call (.cons (.refl _) rfl .nil) rfl ?_
  have hn0 : ¬ (n : Int) < 0 := by omega
  have hn1 : ¬ (1099511627776 : Int) < n := by omega
  simp -implicitDefEqProofs [hr2, q_super_Put_2]
  simp -implicitDefEqProofs [hr4, q_super_Put_4, n1, n2, hn0, hn1]
  simp -implicitDefEqProofs [hr6, q_super_Put_6]
  refine w_super_mark.call .nil rfl ?_
  have m8 : mkN.length = 8 := rfl
  simp -implicitDefEqProofs [m8]
  intro g5 n3 n4 n5 n6
  obtain ⟨Y, hY⟩ : ∃ Y, Y = ((H0.set g1 (.var 58 [.int .i64 s, .int .i64 t, .int .i64 c, .int .i64 a, .int .i64 n])).set g2 (.var 54 [.iarr .u8 256 (List.replicate 256 0)])).set g5 (.var 116 [.iarr .u8 8 (ints mkN)]) := ⟨_, rfl⟩
  try simp only [← hY]
  have y1 : Y g1 = some (.var 58 [.int .i64 s, .int .i64 t, .int .i64 c, .int .i64 a, .int .i64 n]) := by rw [hY]; simp [*]
  have y2 : Y g2 = some (.var 54 [.iarr .u8 256 (List.replicate 256 0)]) := by rw [hY]; simp [*]
  have y5 : Y g5 = some (.var 116 [.iarr .u8 8 (ints mkN)]) := by rw [hY, set_eq']
  clear hY n1 n2 n3 n4 n5 n6
  simp -implicitDefEqProofs [hr7, q_super_Put_7]
  simp -implicitDefEqProofs [hr8, q_super_Put_8, y1]
  refine X_lp (PutU Y g1 g2 g5 [s, t, c, a]) (fun i => 4 - i) 0 ⟨by omega, by simp, by simp, by simp [ints], by simp, .inl ⟨by simp, by simp, Sub_refl _⟩⟩ ?_
  rintro i env B ⟨hi, e1, e2, e40, e41, hw⟩
  have hsub : Y.Sub B := by
    rcases hw with ⟨_, _, h⟩ | h
    · exact h
    · exact h.sub
  rw [q_super_Put_L13]
  obtain ⟨r12, hr12⟩ : ∃ r, r = q_super_Put_12 := ⟨_, rfl⟩; rw [← hr12]
  simp -implicitDefEqProofs [q_super_Put_9, e41]
  refine ⟨fun hlt => ?_, fun hge => ?_⟩
  · have hii : (i : Int) < 4 := by omega
    have wi : IntKind.i64.wrap ((i : Int) + 1) = (i : Int) + 1 := wrap_i64 (by omega)
    have hil : i < [s, t, c, a].length := by simp; omega
    obtain ⟨q, hq⟩ : ∃ q, q = [s, t, c, a][i] := ⟨_, rfl⟩
    have hqb : q < 65536 := by
      have : q ∈ [s, t, c, a] := by rw [hq]; exact List.getElem_mem hil
      simp only [List.mem_cons, List.not_mem_nil, or_false] at this
      rcases this with rfl | rfl | rfl | rfl <;> omega
    have hqd : [s, t, c, a][i]?.getD 0 = q := by rw [List.getElem?_eq_getElem hil, hq]; rfl
    have wq : IntKind.u64.wrap (q : Int) = (q : Int) := wrap_u64 (by omega)
    have htk : [s, t, c, a].take (i + 1) = [s, t, c, a].take i ++ [q] := by rw [List.take_succ_eq_append_getElem hil, hq]
    obtain ⟨L, hL⟩ : ∃ L, L = [s, t, c, a] := ⟨_, rfl⟩
    rw [← hL] at e40 hw hqd htk
    have hl4 : L.length = 4 := by rw [hL]; rfl
    have hL' := hL
    clear hq hil hL
    have h4 := idx4 hl4 (show i < 4 by omega)
    rw [hqd] at h4
    simp -implicitDefEqProofs [-getC, q_super_Put_10, q_super_Put_11, e40, e41, hii, hlt, h4, wq]
    refine (w_word_Put (n := q) (m := 2) (by omega) (by decide)).call (.cons (.refl _) rfl (.cons (.refl _) rfl .nil)) rfl fun g' hg' => ?_
    have hlq : (le 2 q).length = 2 := le_length 2 q
    have hlen : (mkN ++ ((L.take i).map (le 2)).flatten).length ≤ 100 := by
      rw [List.length_append, flat2, List.length_take, m8]; omega
    simp -implicitDefEqProofs
    have hap := fun K hk => WrV.app (K := K) y5 hw hg' rfl (ys := le 2 q) (by omega) (by omega) hk
    rw [hlq] at hap
    refine hap _ fun v' C' h1 h2 => ?_
    simp -implicitDefEqProofs [hr12, q_super_Put_12, e41, wi]
    refine lp_next (i + 1) ⟨by omega, by simp [e1], by simp [e2], by simp [e40, hL'], by simp, .inr ?_⟩ (by omega)
    rw [← hL', htk, List.map_append, List.flatten_append, ← List.append_assoc]
    simpa using h1
  · have hie : i = 4 := by omega
    subst hie
    have hw' : SlS T_uint8 .u8 (env 6) (ints (mkN ++ (le 2 s ++ (le 2 t ++ (le 2 c ++ le 2 a))))) Y B ∨ False := by
      rcases hw with ⟨_, h, _⟩ | h
      · exfalso
        have := congrArg List.length h
        rw [List.length_append, flat2] at this
        simp [m8] at this
      · exact .inl (by simpa using h)
    rcases hw' with hw' | hw'
    · have hB1 := hsub _ _ y1
      have wn : IntKind.u64.wrap (n : Int) = (n : Int) := wrap_u64 (by omega)
      simp -implicitDefEqProofs [hr13, q_super_Put_13, e1, hB1, wn]
      refine (w_word_Put (n := n) (m := 8) (by omega) (by decide)).call (.cons (.refl _) rfl (.cons (.refl _) rfl .nil)) rfl fun g' hg' => ?_
      simp -implicitDefEqProofs
      have h8 : (8 : Nat) = (ints (le 8 n)).length := by simp
      have hap := fun K hk => hw'.app (K := K) (bytes := 1) (ys := ints (le 8 n)) (g1 := g') set_eq' (sub_none hg') hg' (by simp [m8]) hk
      rw [← h8] at hap
      refine hap _ fun v' C' h1 h2 => ?_
      have hbb : Bytes (supB s t c a n) := supB_bytes s t c a n
      have hbl : (supB s t c a n).length = 24 := by simp [supB, m8]
      have h1' : SlS T_uint8 .u8 v' (ints (supB s t c a n)) Y C' := by
        have e : ints (supB s t c a n) = ints (mkN ++ (le 2 s ++ (le 2 t ++ (le 2 c ++ le 2 a)))) ++ ints (le 8 n) := by simp [supB]
        rw [e]; exact h1
      have hs' := h1'.scl
      have hC2 := h1'.sub _ _ y2
      simp -implicitDefEqProofs [hr14, q_super_Put_14, hs'.shp, hs'.good, hs'.comps, hs'.agg]
      refine (w_word_Whole hbb).call (.cons h1'.vw hs'.agg .nil) rfl ?_
      have hwl := whole_len (supB s t c a n)
      simp -implicitDefEqProofs [hwl]
      intro g9 hg9
      have n92 : ¬ g2 = g9 := fun e => by rw [← e, hC2] at hg9; cases hg9
      obtain ⟨Z, hZ⟩ : ∃ Z, Z = C'.set g9 (.var 54 [.iarr .u8 256 (ints (whole (supB s t c a n)))]) := ⟨_, rfl⟩
      try simp only [← hZ]
      have z9 : Z g9 = some (.var 54 [.iarr .u8 256 (ints (whole (supB s t c a n)))]) := by rw [hZ, set_eq']
      have z2 : Z g2 = some (.var 54 [.iarr .u8 256 (List.replicate 256 0)]) := by rw [hZ, set_ne' n92]; exact hC2
      clear hZ
      have hwb := whole_bytes hbb
      have hv9 := vw_arr (n := 252) z9 (by simp [hwl])
      rw [ints_take] at hv9
      simp -implicitDefEqProofs [hr15, q_super_Put_15]
      refine (w_crc_Sealed ((whole (supB s t c a n)).take 252) (bytes_take hwb 252) (by simp; omega)).call (.cons hv9 rfl .nil) rfl fun g10 hg10 => ?_
      have hwo := sealN_whole (b := supB s t c a n) (by omega)
      have hsb : Bytes ((whole (supB s t c a n)).take 252 ++ fourN (moreN 0 ((whole (supB s t c a n)).take 252))) := bytes_append (bytes_take hwb 252) (bytes_four _)
      have z2' : ∀ cc, (Z.set g10 cc) g2 = some (.var 54 [.iarr .u8 256 (List.replicate 256 0)]) := fun cc => by
        rw [set_ne' (fun e => by rw [← e, z2] at hg10; cases hg10)]; exact z2
      have l4 : (fourN (moreN 0 ((whole (supB s t c a n)).take 252))).length = 4 := rfl
      have hlw : ((whole (supB s t c a n)).take 252).length = 252 := by rw [List.length_take, hwl]; rfl
      have hsl := sealN_len (supB s t c a n)
      have hv := vw_irow (A := Z.set g10 (.irow 5 .u8 (ints ((whole (supB s t c a n)).take 252 ++ fourN (moreN 0 ((whole (supB s t c a n)).take 252)))))) set_eq' (n := ((whole (supB s t c a n)).take 252).length + 4) (by simp [l4])
      have hw2 := w_word_Whole hsb
      rw [hwo] at hw2
      simp -implicitDefEqProofs
      refine hw2.call (.cons hv rfl .nil) rfl ?_
      simp -implicitDefEqProofs [e2, z2', hsl, outOf]
    · exact hw'.elim
theorem w_super_Put (s t c a n : Int) : Gives Try.prog F_super_Put [supV s t c a n] (.tuple [.iarr .u8 256 (ints (supS s t c a n)), .int .i64 (supC s t c a n)]) := by
  by_cases h : supC s t c a n = 0
  · have hS : supS s t c a n = sealN (supB s.toNat t.toNat c.toNat a.toNat n.toNat) := if_pos h
    have hp : planOk s t c a := by
      unfold supC at h
      by_cases h1 : planOk s t c a
      · exact h1
      · have h2 : planCode s t c a = 2 := if_neg h1
        rw [h2] at h
        simp at h
    have hn : 0 ≤ n ∧ n ≤ 1099511627776 := by
      unfold supC at h
      have h2 : planCode s t c a = 0 := if_pos hp
      rw [h2, if_neg (by simp)] at h
      split at h <;> omega
    rw [hS, h]
    obtain ⟨⟨s1, s2⟩, ⟨t1, t2⟩, ⟨c1, c2⟩, ⟨a1, a2⟩⟩ := id hp
    obtain ⟨s, rfl⟩ : ∃ m : Nat, s = m := ⟨s.toNat, by omega⟩
    obtain ⟨t, rfl⟩ : ∃ m : Nat, t = m := ⟨t.toNat, by omega⟩
    obtain ⟨c, rfl⟩ : ∃ m : Nat, c = m := ⟨c.toNat, by omega⟩
    obtain ⟨a, rfl⟩ : ∃ m : Nat, a = m := ⟨a.toNat, by omega⟩
    obtain ⟨n, rfl⟩ : ∃ m : Nat, n = m := ⟨n.toNat, by omega⟩
    exact w_super_Put_ok hp (by omega)
  · have hS : supS s t c a n = zz256 := if_neg h
    rw [hS]
    refine v_super_Put (by simp) ?_
    unfold a_super_Put supV
    have hck := w_plan_Check s t c a
    unfold planV at hck
    have hz := zz256_ints
    obtain ⟨r2, hr2⟩ : ∃ r, r = q_super_Put_2 := ⟨_, rfl⟩; rw [← hr2]
    obtain ⟨r4, hr4⟩ : ∃ r, r = q_super_Put_4 := ⟨_, rfl⟩; rw [← hr4]
    simp -implicitDefEqProofs [q_super_Put_0, q_super_Put_1]
    intro g1 g2 n1 n2
    simp -implicitDefEqProofs [n1, n2]
    refine hck.call (.cons (.refl _) rfl .nil) rfl ?_
    by_cases h1 : planCode s t c a = 0
    · have hc2 : supC s t c a n = 2 := by
        unfold supC at h ⊢
        rw [h1, if_neg (by simp)] at h ⊢
        split at h
        · rename_i h3; rw [if_pos h3]
        · exact absurd rfl h
      have hor : n < 0 ∨ 1099511627776 < n := by
        unfold supC at h
        rw [h1, if_neg (by simp)] at h
        split at h
        · assumption
        · exact absurd rfl h
      rw [h1, hc2]
      simp -implicitDefEqProofs [hr2, q_super_Put_2]
      by_cases hn0 : n < 0
      · simp -implicitDefEqProofs [hr4, q_super_Put_4, q_super_Put_5, n1, n2, hn0, outOf]
        exact hz
      · have hn1 : 1099511627776 < n := by omega
        simp -implicitDefEqProofs [hr4, q_super_Put_4, q_super_Put_5, n1, n2, hn0, hn1, outOf]
        exact hz
    · have hc2 : supC s t c a n = planCode s t c a := by unfold supC; rw [if_pos h1]
      rw [hc2]
      simp -implicitDefEqProofs [hr2, q_super_Put_2, q_super_Put_3, h1, n1, n2, outOf]
      exact hz
end Go.Proofs.Ytilgdnbijkcboaa

/- Supers as bytes, plainly. -/
namespace Go.Proofs.Ytilgdnbijkcboaa
open Go AVL
attribute [-simp] AV.isAgg aappI aapp alen List.reduceReplicate
set_option linter.unusedVariables false
set_option linter.unusedSimpArgs false
set_option maxRecDepth 8000

/-- A number at a place. -/
def fld (x : List Nat) (i k : Nat) : Nat := leN ((x.drop i).take k)
/-- What a sector says of itself. -/
structure SupOK (x : List Nat) : Prop where
  eqs : x = sealN (supB (fld x 8 2) (fld x 10 2) (fld x 12 2) (fld x 14 2) (fld x 16 8))
  plan : planOk (fld x 8 2) (fld x 10 2) (fld x 12 2) (fld x 14 2)
  num : fld x 16 8 ≤ 1099511627776
theorem le_fld {x : List Nat} (hx : Bytes x) {i k : Nat} (h : i + k ≤ x.length) : le k (fld x i k) = (x.drop i).take k := by
  have h1 : ((x.drop i).take k).length = k := by simp; omega
  have h2 := le_leN ((x.drop i).take k) (bytes_take (bytes_drop hx i) k)
  rw [h1] at h2
  exact h2
theorem cut_at {l : List Nat} (i k : Nat) : (l.drop i).take k ++ l.drop (i + k) = l.drop i := by
  rw [← List.drop_drop, List.take_append_drop]
/-- The first bytes, put together again. -/
theorem supB_of {x : List Nat} (hx : Bytes x) (hl : x.length = 256) (hm : x.take 8 = mkN) : supB (fld x 8 2) (fld x 10 2) (fld x 12 2) (fld x 14 2) (fld x 16 8) = x.take 24 := by
  unfold supB
  rw [le_fld hx (by omega), le_fld hx (by omega), le_fld hx (by omega), le_fld hx (by omega), le_fld hx (by omega), ← hm]
  have h := fun i k => List.take_add (l := x) (i := i) (j := k)
  rw [show (24 : Nat) = 8 + 2 + 2 + 2 + 2 + 8 by rfl, h, h, h, h, h]
  simp only [List.append_assoc]
theorem zeroB_iff (l : List Nat) : zeroB l = true ↔ l = List.replicate l.length 0 := by
  unfold zeroB
  rw [List.all_eq_true]
  constructor
  · intro h
    exact List.eq_replicate_of_mem fun x hx => by simpa using h x hx
  · intro h x hx
    rw [h] at hx
    have := List.eq_of_mem_replicate hx
    simp [this]
/-- What the program asks of a sector is that it is what would be written. -/
theorem supOK_iff {x : List Nat} (hx : Bytes x) (hl : x.length = 256) : (holdsN x = true ∧ x.take 8 = mkN ∧ zeroB ((x.drop 24).take 228) = true ∧ planOk (fld x 8 2) (fld x 10 2) (fld x 12 2) (fld x 14 2) ∧ fld x 16 8 ≤ 1099511627776) ↔ SupOK x := by
  have hT : ∀ b : List Nat, b.length = 24 → sealN b = b ++ List.replicate 228 0 ++ fourN (moreN 0 (b ++ List.replicate 228 0)) := fun b hb => by
    unfold sealN
    rw [List.take_of_length_le (by omega), hb]
  have hbl : ∀ s t c a n, (supB s t c a n).length = 24 := fun s t c a n => by simp [supB, mkN]
  constructor
  · rintro ⟨h1, h2, h3, h4, h5⟩
    refine ⟨?_, h4, h5⟩
    rw [supB_of hx hl h2, hT _ (by simp [hl])]
    have hz := (zeroB_iff _).1 h3
    have hzl : ((x.drop 24).take 228).length = 228 := by simp [hl]
    rw [hzl] at hz
    rw [← hz]
    have h252 : x.take 24 ++ (x.drop 24).take 228 = x.take 252 := by
      rw [show (252 : Nat) = 24 + 228 by rfl, List.take_add]
    rw [h252]
    unfold holdsN at h1
    rw [hl] at h1
    simp only [Bool.and_eq_true, beq_iff_eq] at h1
    have h6 := h1.2
    rw [show 256 - 4 = 252 by rfl] at h6
    rw [h6, List.take_append_drop]
  · rintro ⟨h1, h2, h3⟩
    obtain ⟨b, hb⟩ : ∃ b, b = supB (fld x 8 2) (fld x 10 2) (fld x 12 2) (fld x 14 2) (fld x 16 8) := ⟨_, rfl⟩
    have hb24 : b.length = 24 := by rw [hb]; exact hbl _ _ _ _ _
    have hx' := h1
    rw [← hb, hT b hb24] at hx'
    refine ⟨by rw [h1]; exact sealN_holds, ?_, ?_, h2, h3⟩
    · have h4 : x.take 8 = b.take 8 := by
        rw [hx', List.append_assoc, List.take_append_of_le_length (by omega)]
      rw [h4, hb]
      unfold supB
      rw [List.take_append_of_le_length (by decide)]
      rfl
    · have h4 : (x.drop 24).take 228 = List.replicate 228 0 := by
        rw [hx', List.append_assoc, List.drop_append_of_le_length (by omega), List.drop_of_length_le (by omega), List.nil_append, List.take_append_of_le_length (by simp), List.take_of_length_le (by simp)]
      rw [h4, zeroB_iff]
      simp
theorem fld_at {A R : List Nat} {k v i : Nat} (hi : A.length = i) (hv : v < 256 ^ k) : fld (A ++ (le k v ++ R)) i k = v := by
  unfold fld
  subst hi
  rw [List.drop_left, List.take_append_of_le_length (by simp), List.take_of_length_le (by simp), leN_le k v hv]
/-- What was written is read. -/
theorem fld_sup {s t c a n : Nat} (hs : s < 65536) (ht : t < 65536) (hc : c < 65536) (ha : a < 65536) (hn : n < 2 ^ 64) :
    fld (sealN (supB s t c a n)) 8 2 = s ∧ fld (sealN (supB s t c a n)) 10 2 = t ∧ fld (sealN (supB s t c a n)) 12 2 = c ∧ fld (sealN (supB s t c a n)) 14 2 = a ∧ fld (sealN (supB s t c a n)) 16 8 = n := by
  have hbl : (supB s t c a n).length = 24 := by simp [supB, mkN]
  obtain ⟨R, hR⟩ : ∃ R, sealN (supB s t c a n) = supB s t c a n ++ R := by
    unfold sealN
    rw [List.take_of_length_le (by omega), List.append_assoc]
    exact ⟨_, rfl⟩
  rw [hR]
  unfold supB
  refine ⟨?_, ?_, ?_, ?_, ?_⟩
  · have := fld_at (A := mkN) (R := (le 2 t ++ (le 2 c ++ (le 2 a ++ le 8 n))) ++ R) (k := 2) (v := s) (i := 8) rfl (by omega)
    simpa only [List.append_assoc] using this
  · have := fld_at (A := mkN ++ le 2 s) (R := (le 2 c ++ (le 2 a ++ le 8 n)) ++ R) (k := 2) (v := t) (i := 10) (by simp [mkN]) (by omega)
    simpa only [List.append_assoc] using this
  · have := fld_at (A := mkN ++ le 2 s ++ le 2 t) (R := (le 2 a ++ le 8 n) ++ R) (k := 2) (v := c) (i := 12) (by simp [mkN]) (by omega)
    simpa only [List.append_assoc] using this
  · have := fld_at (A := mkN ++ le 2 s ++ le 2 t ++ le 2 c) (R := le 8 n ++ R) (k := 2) (v := a) (i := 14) (by simp [mkN]) (by omega)
    simpa only [List.append_assoc] using this
  · have := fld_at (A := mkN ++ le 2 s ++ le 2 t ++ le 2 c ++ le 2 a) (R := R) (k := 8) (v := n) (i := 16) (by simp [mkN]) (by omega)
    simpa only [List.append_assoc] using this
theorem planOk_lt {s t c a : Nat} (h : planOk s t c a) : s < 65536 ∧ t < 65536 ∧ c < 65536 ∧ a < 65536 := by
  obtain ⟨⟨_, _⟩, ⟨_, _⟩, ⟨_, _⟩, ⟨_, _⟩⟩ := h
  omega
theorem supOK_sealed {s t c a n : Nat} (hp : planOk s t c a) (hn : n ≤ 1099511627776) : SupOK (sealN (supB s t c a n)) := by
  obtain ⟨h1, h2, h3, h4⟩ := planOk_lt hp
  obtain ⟨e1, e2, e3, e4, e5⟩ := fld_sup (s := s) (t := t) (c := c) (a := a) (n := n) h1 h2 h3 h4 (by omega)
  exact ⟨by rw [e1, e2, e3, e4, e5], by rw [e1, e2, e3, e4]; exact hp, by rw [e5]; exact hn⟩
/-- What a sector is read as. -/
def supG (x : List Nat) (ok : Bool) : AV := if ok then supV (fld x 8 2 : Nat) (fld x 10 2 : Nat) (fld x 12 2 : Nat) (fld x 14 2 : Nat) (fld x 16 8 : Nat) else supV 0 0 0 0 0
def supGC (ok : Bool) : Int := if ok then 0 else 5
def supO (x : List Nat) : Bool := holdsN x && (decide (x.take 8 = mkN) && (zeroB ((x.drop 24).take 228) && (decide (planOk (fld x 8 2) (fld x 10 2) (fld x 12 2) (fld x 14 2)) && decide (fld x 16 8 ≤ 1099511627776))))
theorem supO_iff {x : List Nat} (hx : Bytes x) (hl : x.length = 256) : supO x = true ↔ SupOK x := by
  rw [← supOK_iff hx hl]
  unfold supO
  simp only [Bool.and_eq_true, decide_eq_true_eq]
end Go.Proofs.Ytilgdnbijkcboaa

/- The walk of super.Get. -/
namespace Go.Proofs.Ytilgdnbijkcboaa
open Go AVL
attribute [-simp] AV.isAgg aappI aapp alen List.reduceReplicate
set_option linter.unusedVariables false
set_option linter.unusedSimpArgs false
set_option maxRecDepth 8000

theorem eqB {k : Nat} {a b : List Nat} (ha : a.length = k) (hb : b.length = k) : eqI k (ints a) (ints b) = decide (a = b) := by
  rw [eqI_iff (by simpa using ha) (by simpa using hb)]
  refine decide_eq_decide.2 ⟨fun h => ?_, fun h => by rw [h]⟩
  have := congrArg (List.map Int.toNat) h
  simpa [ints, List.map_map, Function.comp_def] using this
theorem w_super_Get {x : List Nat} (hx : Bytes x) (hl : x.length = 256) : Gives Try.prog F_super_Get [.iarr .u8 256 (ints x)] (.tuple [supG x (supO x), .int .i64 (supGC (supO x))]) := by
  refine v_super_Get (by simp) ?_
  unfold a_super_Get
  obtain ⟨r3, hr3⟩ : ∃ r, r = q_super_Get_3 := ⟨_, rfl⟩; rw [← hr3]
  obtain ⟨r4, hr4⟩ : ∃ r, r = q_super_Get_4 := ⟨_, rfl⟩; rw [← hr4]
  obtain ⟨r5, hr5⟩ : ∃ r, r = q_super_Get_5 := ⟨_, rfl⟩; rw [← hr5]
  obtain ⟨r6, hr6⟩ : ∃ r, r = q_super_Get_6 := ⟨_, rfl⟩; rw [← hr6]
  obtain ⟨r8, hr8⟩ : ∃ r, r = q_super_Get_8 := ⟨_, rfl⟩; rw [← hr8]
  simp -implicitDefEqProofs [q_super_Get_0, hl]
  intro g1 g2 n1 n2
  obtain ⟨Y, hY⟩ : ∃ Y, Y = (H0.set g1 (.var 54 [.iarr .u8 256 (ints x)])).set g2 (.var 58 [.int .i64 0, .int .i64 0, .int .i64 0, .int .i64 0, .int .i64 0]) := ⟨_, rfl⟩
  try simp only [← hY]
  have y1 : Y g1 = some (.var T_256_uint8 [.iarr .u8 256 (ints x)]) := by rw [hY]; simp [*]
  have y2 : Y g2 = some (.var 58 [.int .i64 0, .int .i64 0, .int .i64 0, .int .i64 0, .int .i64 0]) := by rw [hY, set_eq']
  clear hY
  have hv := vw_arr' y1 (by simpa using hl)
  have hh := w_crc_Holds x hx (by omega)
  have bad : supO x = false → ∀ (C : Heap) (env' : AEnv), env' 2 = .ptr g2 0 → C g2 = some (.var 58 [.int .i64 0, .int .i64 0, .int .i64 0, .int .i64 0, .int .i64 0]) →
      XO Try.prog (fin [ARes.cell 2 .ag 5, ARes.tmp 3] (.tuple [supG x (supO x), .int .i64 (supGC (supO x))])) q_super_Get_2 (.thn .ret (.thn (.seq (.region r3) (.seq (.region r4) (.seq (.region r5) (.seq (.seq (.region r6) (.cond (.t 46) (.seq (.region q_super_Get_7) .ret) .skip)) (.seq (.region r8) .ret))))) .done)) env' C := by
    intro h C env' f2 hc
    rw [h]
    simp -implicitDefEqProofs [q_super_Get_2, f2, hc, supG, supGC, supV, outOf]
  by_cases h1 : holdsN x = true
  · rw [h1] at hh
    have l8 : ((ints x).take 8).length = 8 := by simp [hl]
    simp -implicitDefEqProofs [q_super_Get_1, y1, hl]
    refine hh.call (.cons hv rfl .nil) rfl ?_
    simp -implicitDefEqProofs [y1, hl, l8]
    refine w_super_mark.call .nil rfl ?_
    have m8 : mkN.length = 8 := rfl
    have hq : eqI 8 (ints (x.take 8)) (ints mkN) = decide (x.take 8 = mkN) := eqB (by simp [hl]) m8
    by_cases h2 : x.take 8 = mkN
    · rw [decide_eq_true h2] at hq
      simp -implicitDefEqProofs [hq, m8, Sub_refl]
      simp -implicitDefEqProofs [hr3, q_super_Get_3, hl]
      refine w_word_From (x := x) y1 (by decide) fun g B hg hc hs => ?_
      have hg2 : ¬ g2 = g := fun e => by rw [← e, y2] at hg; cases hg
      have b2 := hs _ _ y2
      simp -implicitDefEqProofs
      simp -implicitDefEqProofs [hr4, q_super_Get_4]
      refine w_Cursor_Num hx hl hc (n := 2) (by decide) (by decide) fun B1 hc1 k1 => ?_
      have b21 := k1 _ _ hg2 b2
      have hf : ∀ i k, leN ((x.drop i).take k) = fld x i k := fun i k => rfl
      have flt : ∀ i, fld x i 2 < 65536 := fun i => by
        have h := leN_lt ((x.drop i).take 2) (bytes_take (bytes_drop hx i) 2)
        have h2 : ((x.drop i).take 2).length ≤ 2 := by simp; omega
        have h3 : 256 ^ ((x.drop i).take 2).length ≤ 256 ^ 2 := Nat.pow_le_pow_right (by decide) h2
        unfold fld; omega
      have fw : ∀ i, IntKind.i64.wrap ((fld x i 2 : Nat) : Int) = ((fld x i 2 : Nat) : Int) := fun i => by
        have := flt i; exact wrap_i64 (by omega)
      have f8 : fld x 16 8 < 2 ^ 64 := leN_lt8 (bytes_take (bytes_drop hx 16) 8) (by simp; omega)
      simp -implicitDefEqProofs [hf, fw]
      refine w_Cursor_Num hx hl hc1 (n := 2) (by decide) (by decide) fun B2 hc2 k2 => ?_
      have b22 := k2 _ _ hg2 b21
      simp -implicitDefEqProofs [hf, fw]
      refine w_Cursor_Num hx hl hc2 (n := 2) (by decide) (by decide) fun B3 hc3 k3 => ?_
      have b23 := k3 _ _ hg2 b22
      simp -implicitDefEqProofs [hf, fw]
      refine w_Cursor_Num hx hl hc3 (n := 2) (by decide) (by decide) fun B4 hc4 k4 => ?_
      have b24 := k4 _ _ hg2 b23
      simp -implicitDefEqProofs [hf, fw]
      intro g5 hg5
      have n52 : ¬ g2 = g5 := fun e => by rw [← e, b24] at hg5; cases hg5
      have n5g : ¬ g = g5 := fun e => by rw [← e, hc4.cg] at hg5; cases hg5
      obtain ⟨Z, hZ⟩ : ∃ Z, Z = B4.set g5 (.var 53 [.int .i64 (fld x 8 2 : Nat), .int .i64 (fld x 10 2 : Nat), .int .i64 (fld x 12 2 : Nat), .int .i64 (fld x 14 2 : Nat)]) := ⟨_, rfl⟩
      try simp only [← hZ]
      have hsZ : B4.Sub Z := by rw [hZ]; exact sub_none hg5
      have z5 : Z g5 = some (.var 53 [.int .i64 (fld x 8 2 : Nat), .int .i64 (fld x 10 2 : Nat), .int .i64 (fld x 12 2 : Nat), .int .i64 (fld x 14 2 : Nat)]) := by rw [hZ, set_eq']
      clear hZ
      have z2 := hsZ _ _ b24
      have hcZ : CurI g g1 x (8 + 2 + 2 + 2 + 2) (244 - 2 - 2 - 2 - 2) Z := ⟨hsZ _ _ hc4.cg, hsZ _ _ hc4.c1, hc4.le⟩
      simp -implicitDefEqProofs [hr5, q_super_Get_5]
      refine w_Cursor_Num hx hl hcZ (n := 8) (by decide) (by decide) fun B5 hc5 k5 => ?_
      have b25 := k5 _ _ hg2 z2
      have b55 := k5 _ _ (fun e => n5g e.symm) z5
      simp -implicitDefEqProofs [hf]
      have hck := w_plan_Check (fld x 8 2 : Nat) (fld x 10 2 : Nat) (fld x 12 2 : Nat) (fld x 14 2 : Nat)
      unfold planV at hck
      simp -implicitDefEqProofs [hr6, q_super_Get_6]
      refine w_Cursor_Rest hl hc5 ?_
      have bad2 : supO x = false → ∀ (env' : AEnv), env' 2 = .ptr g2 0 →
          XO Try.prog (fin [ARes.cell 2 .ag 5, ARes.tmp 3] (.tuple [supG x (supO x), .int .i64 (supGC (supO x))])) q_super_Get_7 (.thn .ret (.thn (.seq (.region r8) .ret) .done)) env' B5 := by
        intro h env' f2
        rw [h]
        simp -implicitDefEqProofs [q_super_Get_7, f2, b25, supG, supGC, supV, outOf]
      have hO : supO x = (zeroB ((x.drop 24).take 228) && (decide (planOk (fld x 8 2) (fld x 10 2) (fld x 12 2) (fld x 14 2)) && decide (fld x 16 8 ≤ 1099511627776))) := by
        unfold supO; rw [h1, decide_eq_true h2]; rfl
      by_cases h3 : zeroB ((x.drop 24).take 228) = true
      · rw [h3] at hO
        simp -implicitDefEqProofs [h3, b55]
        refine hck.call (.cons (.refl _) rfl .nil) rfl ?_
        by_cases h4 : planOk (fld x 8 2) (fld x 10 2) (fld x 12 2) (fld x 14 2)
        · have hpc : planCode (fld x 8 2) (fld x 10 2) (fld x 12 2) (fld x 14 2) = 0 := if_pos h4
          rw [decide_eq_true h4] at hO
          rw [hpc]
          by_cases h5 : fld x 16 8 ≤ 1099511627776
          · rw [decide_eq_true h5] at hO
            have h5' : ¬ (1099511627776 : Int) < (fld x 16 8 : Nat) := by omega
            have wf : IntKind.i64.wrap ((fld x 16 8 : Nat) : Int) = ((fld x 16 8 : Nat) : Int) := wrap_i64 (by omega)
            rw [show supO x = true from hO]
            simp -implicitDefEqProofs [h5']
            simp -implicitDefEqProofs [hr8, q_super_Get_8, b25, b55, wf, supG, supGC, supV, outOf]
          · rw [decide_eq_false h5] at hO
            have h5' : (1099511627776 : Int) < (fld x 16 8 : Nat) := by omega
            simp -implicitDefEqProofs [h5']
            exact bad2 hO _ (by simp)
        · have hpc : planCode (fld x 8 2) (fld x 10 2) (fld x 12 2) (fld x 14 2) = 2 := if_neg h4
          rw [decide_eq_false h4] at hO
          rw [hpc]
          simp -implicitDefEqProofs
          exact bad2 hO _ (by simp)
      · have h3' : zeroB ((x.drop 24).take 228) = false := by simpa using h3
        rw [h3'] at hO
        simp -implicitDefEqProofs [h3']
        exact bad2 hO _ (by simp)
    · have hno : supO x = false := by unfold supO; rw [decide_eq_false h2]; simp
      rw [decide_eq_false h2] at hq
      simp -implicitDefEqProofs [hq, m8, Sub_refl]
      exact bad hno Y _ (by simp) y2
  · have h1' : holdsN x = false := by simpa using h1
    have hno : supO x = false := by unfold supO; rw [h1']; rfl
    rw [h1'] at hh
    simp -implicitDefEqProofs [q_super_Get_1, y1, hl]
    refine hh.call (.cons hv rfl .nil) rfl ?_
    simp -implicitDefEqProofs
    exact bad hno Y _ (by simp) y2
end Go.Proofs.Ytilgdnbijkcboaa

/- The walks of Choose. -/
namespace Go.Proofs.Ytilgdnbijkcboaa
open Go AVL
attribute [-simp] AV.isAgg aappI aapp alen List.reduceReplicate
set_option linter.unusedVariables false
set_option linter.unusedSimpArgs false
set_option maxRecDepth 8000

/-- Of two that were read, which is taken. -/
def chV (u v : AV) (k l m n : Int) : AV := if k ≠ 0 ∧ l ≠ 0 then .tuple [supV 0 0 0 0 0, .int .i64 0, .int .i64 5] else if k ≠ 0 ∨ (l = 0 ∧ m < n) then .tuple [v, .int .i64 1, .int .i64 0] else .tuple [u, .int .i64 0, .int .i64 0]
theorem w_super_Choose_of {a b : List Nat} (ha : a.length = 256) (hb : b.length = 256) {s t c u m k s' t' c' u' n l : Int} (h1 : Gives Try.prog F_super_Get [.iarr .u8 256 (ints a)] (.tuple [supV s t c u m, .int .i64 k])) (h2 : Gives Try.prog F_super_Get [.iarr .u8 256 (ints b)] (.tuple [supV s' t' c' u' n, .int .i64 l])) :
    Gives Try.prog F_super_Choose [.iarr .u8 256 (ints a), .iarr .u8 256 (ints b)] (chV (supV s t c u m) (supV s' t' c' u' n) k l m n) := by
  refine v_super_Choose (by simp) ?_
  unfold a_super_Choose
  unfold supV at h1 h2
  obtain ⟨r2, hr2⟩ : ∃ r, r = q_super_Choose_2 := ⟨_, rfl⟩; rw [← hr2]
  obtain ⟨r3, hr3⟩ : ∃ r, r = q_super_Choose_3 := ⟨_, rfl⟩; rw [← hr3]
  obtain ⟨r5, hr5⟩ : ∃ r, r = q_super_Choose_5 := ⟨_, rfl⟩; rw [← hr5]
  simp -implicitDefEqProofs [q_super_Choose_0, q_super_Choose_1, ha, hb]
  intro g2 g3 n1 n2 g4 n3 n4 n5 n6
  simp -implicitDefEqProofs [n1, n2, n3, n4, n5, n6, ha, hb]
  refine h1.call (.cons (.refl _) rfl .nil) rfl ?_
  simp -implicitDefEqProofs
  intro g7 n7 n8 n9 n10 n11 n12
  simp -implicitDefEqProofs [hr2, q_super_Choose_2, n1, n2, n3, n4, n5, n6, n7, n8, n9, n10, n11, n12, ha, hb]
  refine h2.call (.cons (.refl _) rfl .nil) rfl ?_
  simp -implicitDefEqProofs
  intro g9 n13 n14 n15 n16 n17 n18 n19 n20
  unfold chV
  by_cases hk : k = 0
  · by_cases hl : l = 0
    · by_cases hm : m < n
      · simp -implicitDefEqProofs [hr3, q_super_Choose_3, hk, hl]
        simp -implicitDefEqProofs [hr5, q_super_Choose_5, q_super_Choose_6, hk, hl, hm, n1, n2, n3, n4, n5, n6, n7, n8, n9, n10, n11, n12, n13, n14, n15, n16, n17, n18, n19, n20, outOf, supV]
      · simp -implicitDefEqProofs [hr3, q_super_Choose_3, hk, hl]
        simp -implicitDefEqProofs [hr5, q_super_Choose_5, q_super_Choose_7, hk, hl, hm, n1, n2, n3, n4, n5, n6, n7, n8, n9, n10, n11, n12, n13, n14, n15, n16, n17, n18, n19, n20, outOf, supV]
    · simp -implicitDefEqProofs [hr3, q_super_Choose_3, hk, hl]
      simp -implicitDefEqProofs [hr5, q_super_Choose_5, q_super_Choose_7, hk, hl, n1, n2, n3, n4, n5, n6, n7, n8, n9, n10, n11, n12, n13, n14, n15, n16, n17, n18, n19, n20, outOf, supV]
  · by_cases hl : l = 0
    · simp -implicitDefEqProofs [hr3, q_super_Choose_3, hk, hl]
      simp -implicitDefEqProofs [hr5, q_super_Choose_5, q_super_Choose_6, hk, hl, n1, n2, n3, n4, n5, n6, n7, n8, n9, n10, n11, n12, n13, n14, n15, n16, n17, n18, n19, n20, outOf, supV]
    · simp -implicitDefEqProofs [hr3, q_super_Choose_3, q_super_Choose_4, hk, hl, n1, n2, n3, n4, n5, n6, n7, n8, n9, n10, n11, n12, n13, n14, n15, n16, n17, n18, n19, n20, outOf, supV]
theorem w_ref08_Choose_of {a b : List Nat} (ha : a.length = 256) (hb : b.length = 256) {s t c u m k s' t' c' u' n l : Int} (h1 : Gives Try.prog F_ref08_Get [.iarr .u8 256 (ints a)] (.tuple [supV s t c u m, .int .i64 k])) (h2 : Gives Try.prog F_ref08_Get [.iarr .u8 256 (ints b)] (.tuple [supV s' t' c' u' n, .int .i64 l])) :
    Gives Try.prog F_ref08_Choose [.iarr .u8 256 (ints a), .iarr .u8 256 (ints b)] (chV (supV s t c u m) (supV s' t' c' u' n) k l m n) := by
  refine v_ref08_Choose (by simp) ?_
  unfold a_ref08_Choose
  unfold supV at h1 h2
  obtain ⟨r2, hr2⟩ : ∃ r, r = q_ref08_Choose_2 := ⟨_, rfl⟩; rw [← hr2]
  obtain ⟨r3, hr3⟩ : ∃ r, r = q_ref08_Choose_3 := ⟨_, rfl⟩; rw [← hr3]
  obtain ⟨r5, hr5⟩ : ∃ r, r = q_ref08_Choose_5 := ⟨_, rfl⟩; rw [← hr5]
  simp -implicitDefEqProofs [q_ref08_Choose_0, q_ref08_Choose_1, ha, hb]
  intro g2 g3 n1 n2 g4 n3 n4 n5 n6
  simp -implicitDefEqProofs [n1, n2, n3, n4, n5, n6, ha, hb]
  refine h1.call (.cons (.refl _) rfl .nil) rfl ?_
  simp -implicitDefEqProofs
  intro g7 n7 n8 n9 n10 n11 n12
  simp -implicitDefEqProofs [hr2, q_ref08_Choose_2, n1, n2, n3, n4, n5, n6, n7, n8, n9, n10, n11, n12, ha, hb]
  refine h2.call (.cons (.refl _) rfl .nil) rfl ?_
  simp -implicitDefEqProofs
  intro g9 n13 n14 n15 n16 n17 n18 n19 n20
  unfold chV
  by_cases hk : k = 0
  · by_cases hl : l = 0
    · by_cases hm : m < n
      · have hm' : ¬ n ≤ m := by omega
        simp -implicitDefEqProofs [hr3, q_ref08_Choose_3, hk, hl, hm, hm', n1, n2, n3, n4, n5, n6, n7, n8, n9, n10, n11, n12, n13, n14, n15, n16, n17, n18, n19, n20]
        simp -implicitDefEqProofs [hr5, q_ref08_Choose_5, q_ref08_Choose_6, hk, hl, hm, n1, n2, n3, n4, n5, n6, n7, n8, n9, n10, n11, n12, n13, n14, n15, n16, n17, n18, n19, n20, outOf, supV]
      · have hm' : n ≤ m := by omega
        simp -implicitDefEqProofs [hr3, q_ref08_Choose_3, q_ref08_Choose_4, hk, hl, hm, hm', n1, n2, n3, n4, n5, n6, n7, n8, n9, n10, n11, n12, n13, n14, n15, n16, n17, n18, n19, n20, outOf, supV]
    · simp -implicitDefEqProofs [hr3, q_ref08_Choose_3, q_ref08_Choose_4, hk, hl, n1, n2, n3, n4, n5, n6, n7, n8, n9, n10, n11, n12, n13, n14, n15, n16, n17, n18, n19, n20, outOf, supV]
  · by_cases hl : l = 0
    · simp -implicitDefEqProofs [hr3, q_ref08_Choose_3, hk, hl]
      simp -implicitDefEqProofs [hr5, q_ref08_Choose_5, q_ref08_Choose_6, hk, hl, n1, n2, n3, n4, n5, n6, n7, n8, n9, n10, n11, n12, n13, n14, n15, n16, n17, n18, n19, n20, outOf, supV]
    · simp -implicitDefEqProofs [hr3, q_ref08_Choose_3, hk, hl]
      simp -implicitDefEqProofs [hr5, q_ref08_Choose_5, q_ref08_Choose_7, hk, hl, n1, n2, n3, n4, n5, n6, n7, n8, n9, n10, n11, n12, n13, n14, n15, n16, n17, n18, n19, n20, outOf, supV]
end Go.Proofs.Ytilgdnbijkcboaa

/- The chapter's Put and Get. -/
namespace Go.Proofs.Ytilgdnbijkcboaa
open Go AVL
attribute [-simp] AV.isAgg aappI aapp alen List.reduceReplicate
set_option linter.unusedVariables false
set_option linter.unusedSimpArgs false
set_option maxRecDepth 8000

theorem w_ref01_Get : ∀ (l : List Nat), Bytes l → l.length ≤ 8 → Gives Try.prog F_ref01_Get [.isl .u8 (ints l)] (.int .u64 (leN l))
  | [], _, _ => by
    refine v_ref01_Get (by simp) ?_
    simp -implicitDefEqProofs [a_ref01_Get, q_ref01_Get_0, q_ref01_Get_1, q_ref01_Get_2, outOf, leN]
  | x :: r, h, h8 => by
    refine v_ref01_Get (by simp) ?_
    have hx := h x (by simp)
    have hr : Bytes r := fun y hy => h y (by simp [hy])
    have h7 : r.length ≤ 7 := by simpa using h8
    have ih := w_ref01_Get r hr (by omega)
    have hlt := leN_lt r hr
    have h256 : 256 ^ r.length ≤ 256 ^ 7 := Nat.pow_le_pow_right (by decide) h7
    have hlt' : leN r < 256 ^ 7 := by omega
    have e0 : ¬ ((r.length : Int) + 1 = 0) := by omega
    have e1 : ¬ ((8 : Int) < (r.length : Int) + 1) := by omega
    have e2 : IntKind.u64.wrap (x : Int) = (x : Int) := wrap_u64 (by omega)
    have e3 : IntKind.u64.wrap (256 * (leN r : Int)) = 256 * (leN r : Int) := wrap_u64 (by omega)
    have e4 : IntKind.u64.wrap ((x : Int) + 256 * (leN r : Int)) = ((x + 256 * leN r : Nat) : Int) := by rw [wrap_u64 (by omega)]; omega
    have htl : List.take r.length (ints (x :: r)).tail = ints r := by
      show List.take r.length (ints r) = ints r
      rw [List.take_of_length_le (by simp)]
    have hhd : (ints (x :: r))[0]?.getD 0 = (x : Int) := by simp [ints]
    simp -implicitDefEqProofs [a_ref01_Get, q_ref01_Get_0, q_ref01_Get_1, q_ref01_Get_3, q_ref01_Get_5, e0, e1, e2]
    refine ⟨by omega, ?_⟩
    rw [htl]
    refine ih.call (.cons (.refl _) rfl .nil) rfl ?_
    simp -implicitDefEqProofs [e2, e3, e4, leN, outOf, hhd, Sub_refl]
theorem w_ref08_num {x : List Nat} (hx : Bytes x) (hl : x.length = 256) {i : Nat} (hi : i + 1 < 256) : Gives Try.prog F_ref08_num [.iarr .u8 256 (ints x), .int .i64 i] (.int .i64 (fld x i 2 : Nat)) := by
  refine v_ref08_num (by simp) ?_
  have h1 : i < x.length := by omega
  have h2 : i + 1 < x.length := by omega
  obtain ⟨p, hp⟩ : ∃ p, p = x[i] := ⟨_, rfl⟩
  obtain ⟨q, hq⟩ : ∃ q, q = x[i + 1] := ⟨_, rfl⟩
  have hpd : x[i]?.getD 0 = p := by rw [List.getElem?_eq_getElem h1, hp]; rfl
  have hqd : x[i + 1]?.getD 0 = q := by rw [List.getElem?_eq_getElem h2, hq]; rfl
  have hpb : p < 256 := by rw [hp]; exact hx _ (List.getElem_mem h1)
  have hqb : q < 256 := by rw [hq]; exact hx _ (List.getElem_mem h2)
  have hf : fld x i 2 = p + 256 * q := by
    unfold fld
    rw [List.drop_eq_getElem_cons h1, List.take_succ_cons, List.drop_eq_getElem_cons h2, List.take_succ_cons, ← hp, ← hq]
    simp [leN]
  have e1 : IntKind.i64.wrap ((i : Int) + 1) = ((i + 1 : Nat) : Int) := by rw [wrap_i64 (by omega)]; omega
  have e2 : IntKind.i64.wrap (p : Int) = (p : Int) := wrap_i64 (by omega)
  have e3 : IntKind.i64.wrap (q : Int) = (q : Int) := wrap_i64 (by omega)
  have e4 : IntKind.i64.wrap (256 * (q : Int)) = 256 * (q : Int) := wrap_i64 (by omega)
  have e5 : IntKind.i64.wrap ((p : Int) + 256 * (q : Int)) = ((p + 256 * q : Nat) : Int) := by rw [wrap_i64 (by omega)]; omega
  have hi1 : (i : Int) < 256 := by omega
  have hi2 : ((i + 1 : Nat) : Int) < 256 := by omega
  rw [hf]
  obtain ⟨j, hj⟩ : ∃ j : Nat, j = i + 1 := ⟨_, rfl⟩
  rw [← hj] at e1 hqd hi2
  obtain ⟨S, hS⟩ : ∃ S : Nat, S = p + 256 * q := ⟨_, rfl⟩
  rw [← hS] at e5 ⊢
  simp -implicitDefEqProofs [a_ref08_num, q_ref08_num_0, q_ref08_num_1, hl, e1, e2, e3, e4, e5, hi1, hi2, hpd, hqd, outOf]
theorem w_ref08_Put_ok {s t c a n : Nat} (hp : planOk s t c a) (hn : n ≤ 1099511627776) : Gives Try.prog F_ref08_Put [supV s t c a n] (.tuple [.iarr .u8 256 (ints (sealN (supB s t c a n))), .int .i64 0]) := by
  refine v_ref08_Put (by simp) ?_
  unfold a_ref08_Put supV
  obtain ⟨⟨s1, s2⟩, ⟨t1, t2⟩, ⟨c1, c2⟩, ⟨a1, a2⟩⟩ := id hp
  have hpc : planCode s t c a = 0 := if_pos hp
  have hck := w_ref07_Check s t c a
  rw [hpc] at hck
  unfold planV at hck
  obtain ⟨r2, hr2⟩ : ∃ r, r = q_ref08_Put_2 := ⟨_, rfl⟩; rw [← hr2]
  obtain ⟨r4, hr4⟩ : ∃ r, r = q_ref08_Put_4 := ⟨_, rfl⟩; rw [← hr4]
  obtain ⟨r6, hr6⟩ : ∃ r, r = q_ref08_Put_6 := ⟨_, rfl⟩; rw [← hr6]
  obtain ⟨r7, hr7⟩ : ∃ r, r = q_ref08_Put_7 := ⟨_, rfl⟩; rw [← hr7]
  obtain ⟨r8, hr8⟩ : ∃ r, r = q_ref08_Put_8 := ⟨_, rfl⟩; rw [← hr8]
  obtain ⟨r9, hr9⟩ : ∃ r, r = q_ref08_Put_9 := ⟨_, rfl⟩; rw [← hr9]
  obtain ⟨r10, hr10⟩ : ∃ r, r = q_ref08_Put_10 := ⟨_, rfl⟩; rw [← hr10]
  obtain ⟨r11, hr11⟩ : ∃ r, r = q_ref08_Put_11 := ⟨_, rfl⟩; rw [← hr11]
  obtain ⟨r12, hr12⟩ : ∃ r, r = q_ref08_Put_12 := ⟨_, rfl⟩; rw [← hr12]
  simp -implicitDefEqProofs [q_ref08_Put_0, q_ref08_Put_1]
  intro g1 g2 n1 n2
  simp -implicitDefEqProofs [n1, n2]
  refine hck.call (.cons (.refl _) rfl .nil) rfl ?_
  have hn0 : ¬ (n : Int) < 0 := by omega
  have hn1 : ¬ (1099511627776 : Int) < n := by omega
  simp -implicitDefEqProofs [hr2, q_ref08_Put_2]
  simp -implicitDefEqProofs [hr4, q_ref08_Put_4, n1, n2, hn0, hn1]
  obtain ⟨Y, hY⟩ : ∃ Y, Y = (H0.set g1 (.var 60 [.int .i64 s, .int .i64 t, .int .i64 c, .int .i64 a, .int .i64 n])).set g2 (.var 54 [.iarr .u8 256 (List.replicate 256 0)]) := ⟨_, rfl⟩
  try simp only [← hY]
  have y1 : Y g1 = some (.var 60 [.int .i64 s, .int .i64 t, .int .i64 c, .int .i64 a, .int .i64 n]) := by rw [hY]; simp [*]
  have y2 : Y g2 = some (.var 54 [.iarr .u8 256 (List.replicate 256 0)]) := by rw [hY, set_eq']
  clear hY n1 n2
  simp -implicitDefEqProofs [hr6, q_ref08_Put_6]
  intro g5 hg5
  have hv0 : SlS T_uint8 .u8 (.own g5 0 8) (ints mkN) Y (Y.set g5 (.irow T_uint8 .u8 (ints mkN))) := SlS.one hg5 rfl
  have m8 : mkN.length = 8 := rfl
  have sB : s < 65536 ∧ t < 65536 ∧ c < 65536 ∧ a < 65536 := planOk_lt hp
  have ws : IntKind.u64.wrap (s : Int) = (s : Int) := wrap_u64 (by omega)
  have wt : IntKind.u64.wrap (t : Int) = (t : Int) := wrap_u64 (by omega)
  have wc : IntKind.u64.wrap (c : Int) = (c : Int) := wrap_u64 (by omega)
  have wa : IntKind.u64.wrap (a : Int) = (a : Int) := wrap_u64 (by omega)
  have wn : IntKind.u64.wrap (n : Int) = (n : Int) := wrap_u64 (by omega)
  have hap : ∀ {q m : Nat} {w v : AV} {l : List Nat} {B C : Heap} {K : AV → Heap → Prop}, m ≤ 8 → l.length ≤ 100 → SlS T_uint8 .u8 w (ints l) Y B → SlS T_uint8 .u8 v (ints (le m q)) B C → (∀ w' D, SlS T_uint8 .u8 w' (ints (l ++ le m q)) Y D → w'.isAgg = false → Y.Sub D → K w' D) → aappI T_uint8 .u8 1 w v C K := by
    intro q m w v l B C K hm hl hw hv hk
    refine (hw.mono hv.sub).appS (Sub_refl _) (hv.src (Sub_refl _)) (by simp; omega) fun w' D h' hag => hk w' D ?_ hag h'.sub
    rw [show ints (l ++ le m q) = ints l ++ ints (le m q) by simp]
    exact h'
  obtain ⟨Z, hZ⟩ : ∃ Z, Z = Y.set g5 (.irow T_uint8 .u8 (ints mkN)) := ⟨_, rfl⟩
  have hZ' : Y.set g5 (.irow 5 .u8 [77, 79, 82, 84, 77, 65, 73, 78]) = Z := hZ.symm
  try simp only [hZ']
  rw [← hZ] at hv0
  have z1 := hv0.sub _ _ y1
  clear hZ hZ'
  simp -implicitDefEqProofs [hr7, q_ref08_Put_7, z1, ws]
  refine (w_ref01_Put 2 s (by omega) (by decide)).call (.cons (.refl _) rfl (.cons (.refl _) rfl .nil)) fun v1 B1 h1 => ?_
  simp -implicitDefEqProofs
  refine hap (by decide) (by decide) hv0 h1 fun w1 D1 k1 a1 q1 => ?_
  have d1 := q1 _ _ y1
  simp -implicitDefEqProofs
  simp -implicitDefEqProofs [hr8, q_ref08_Put_8, d1, wt]
  refine (w_ref01_Put 2 t (by omega) (by decide)).call (.cons (.refl _) rfl (.cons (.refl _) rfl .nil)) fun v2 B2 h2 => ?_
  simp -implicitDefEqProofs
  refine hap (by decide) (by simp [m8]) k1 h2 fun w2 D2 k2 a2 q2 => ?_
  have d2 := q2 _ _ y1
  simp -implicitDefEqProofs
  simp -implicitDefEqProofs [hr9, q_ref08_Put_9, d2, wc]
  refine (w_ref01_Put 2 c (by omega) (by decide)).call (.cons (.refl _) rfl (.cons (.refl _) rfl .nil)) fun v3 B3 h3 => ?_
  simp -implicitDefEqProofs
  refine hap (by decide) (by simp [m8]) k2 h3 fun w3 D3 k3 a3 q3 => ?_
  have d3 := q3 _ _ y1
  simp -implicitDefEqProofs
  simp -implicitDefEqProofs [hr10, q_ref08_Put_10, d3, wa]
  refine (w_ref01_Put 2 a (by omega) (by decide)).call (.cons (.refl _) rfl (.cons (.refl _) rfl .nil)) fun v4 B4 h4 => ?_
  simp -implicitDefEqProofs
  refine hap (by decide) (by simp [m8]) k3 h4 fun w4 D4 k4 a4 q4 => ?_
  have d4 := q4 _ _ y1
  simp -implicitDefEqProofs
  simp -implicitDefEqProofs [hr11, q_ref08_Put_11, d4, wn]
  refine (w_ref01_Put 8 n (by omega) (by decide)).call (.cons (.refl _) rfl (.cons (.refl _) rfl .nil)) fun v5 B5 h5 => ?_
  simp -implicitDefEqProofs
  refine hap (by decide) (by simp [m8]) k4 h5 fun w5 D5 k5 a5 q5 => ?_
  have d5 := q5 _ _ y2
  have hk5 : SlS T_uint8 .u8 w5 (ints (supB s t c a n)) Y D5 := by
    have e : supB s t c a n = mkN ++ le 2 s ++ le 2 t ++ le 2 c ++ le 2 a ++ le 8 n := by simp [supB]
    rw [e]; exact k5
  have hbl : (supB s t c a n).length = 24 := by simp [supB, m8]
  have hs5 := hk5.scl
  have hsl := sealN_len (supB s t c a n)
  simp -implicitDefEqProofs
  simp -implicitDefEqProofs [hr12, q_ref08_Put_12, hs5.shp, hs5.good, hs5.comps, hs5.agg]
  refine (w_ref08_Sealed (supB_bytes s t c a n) (by omega)).call (.cons hk5.vw hs5.agg .nil) rfl ?_
  simp -implicitDefEqProofs [d5, hsl, outOf]
end Go.Proofs.Ytilgdnbijkcboaa

/- The chapter's Put and Get, whole. -/
namespace Go.Proofs.Ytilgdnbijkcboaa
open Go AVL
attribute [-simp] AV.isAgg aappI aapp alen List.reduceReplicate
set_option linter.unusedVariables false
set_option linter.unusedSimpArgs false
set_option maxRecDepth 8000

theorem w_ref08_Put (s t c a n : Int) : Gives Try.prog F_ref08_Put [supV s t c a n] (.tuple [.iarr .u8 256 (ints (supS s t c a n)), .int .i64 (supC s t c a n)]) := by
  by_cases h : supC s t c a n = 0
  · have hS : supS s t c a n = sealN (supB s.toNat t.toNat c.toNat a.toNat n.toNat) := if_pos h
    have hp : planOk s t c a := by
      unfold supC at h
      by_cases h1 : planOk s t c a
      · exact h1
      · have h2 : planCode s t c a = 2 := if_neg h1
        rw [h2] at h
        simp at h
    have hn : 0 ≤ n ∧ n ≤ 1099511627776 := by
      unfold supC at h
      have h2 : planCode s t c a = 0 := if_pos hp
      rw [h2, if_neg (by simp)] at h
      split at h <;> omega
    rw [hS, h]
    obtain ⟨⟨s1, s2⟩, ⟨t1, t2⟩, ⟨c1, c2⟩, ⟨a1, a2⟩⟩ := id hp
    obtain ⟨s, rfl⟩ : ∃ m : Nat, s = m := ⟨s.toNat, by omega⟩
    obtain ⟨t, rfl⟩ : ∃ m : Nat, t = m := ⟨t.toNat, by omega⟩
    obtain ⟨c, rfl⟩ : ∃ m : Nat, c = m := ⟨c.toNat, by omega⟩
    obtain ⟨a, rfl⟩ : ∃ m : Nat, a = m := ⟨a.toNat, by omega⟩
    obtain ⟨n, rfl⟩ : ∃ m : Nat, n = m := ⟨n.toNat, by omega⟩
    exact w_ref08_Put_ok hp (by omega)
  · have hS : supS s t c a n = zz256 := if_neg h
    rw [hS]
    refine v_ref08_Put (by simp) ?_
    unfold a_ref08_Put supV
    have hck := w_ref07_Check s t c a
    unfold planV at hck
    have hz := zz256_ints
    obtain ⟨r2, hr2⟩ : ∃ r, r = q_ref08_Put_2 := ⟨_, rfl⟩; rw [← hr2]
    obtain ⟨r4, hr4⟩ : ∃ r, r = q_ref08_Put_4 := ⟨_, rfl⟩; rw [← hr4]
    simp -implicitDefEqProofs [q_ref08_Put_0, q_ref08_Put_1]
    intro g1 g2 n1 n2
    simp -implicitDefEqProofs [n1, n2]
    refine hck.call (.cons (.refl _) rfl .nil) rfl ?_
    by_cases h1 : planCode s t c a = 0
    · have hc2 : supC s t c a n = 2 := by
        unfold supC at h ⊢
        rw [h1, if_neg (by simp)] at h ⊢
        split at h
        · rename_i h3; rw [if_pos h3]
        · exact absurd rfl h
      have hor : n < 0 ∨ 1099511627776 < n := by
        unfold supC at h
        rw [h1, if_neg (by simp)] at h
        split at h
        · assumption
        · exact absurd rfl h
      rw [h1, hc2]
      simp -implicitDefEqProofs [hr2, q_ref08_Put_2]
      by_cases hn0 : n < 0
      · simp -implicitDefEqProofs [hr4, q_ref08_Put_4, q_ref08_Put_5, n1, n2, hn0, outOf]
        exact hz
      · have hn1 : 1099511627776 < n := by omega
        simp -implicitDefEqProofs [hr4, q_ref08_Put_4, q_ref08_Put_5, n1, n2, hn0, hn1, outOf]
        exact hz
    · have hc2 : supC s t c a n = planCode s t c a := by unfold supC; rw [if_pos h1]
      rw [hc2]
      simp -implicitDefEqProofs [hr2, q_ref08_Put_2, q_ref08_Put_3, h1, n1, n2, outOf]
      exact hz
structure GetU (x : List Nat) (g1 g2 : Nat) (Y : Heap) (i : Nat) (env : AEnv) (B : Heap) : Prop where
  lo : 16 ≤ i
  hi : i ≤ 24
  e1 : env 1 = .ptr g1 0
  e2 : env 2 = .ptr g2 0
  e5 : env 5 = .int .i64 i
  w : SlS T_uint8 .u8 (env 4) (ints ((x.drop 16).take (i - 16))) Y B
theorem w_ref08_Get {x : List Nat} (hx : Bytes x) (hl : x.length = 256) : Gives Try.prog F_ref08_Get [.iarr .u8 256 (ints x)] (.tuple [supG x (supO x), .int .i64 (supGC (supO x))]) := by
  refine v_ref08_Get (by simp) ?_
  unfold a_ref08_Get
  obtain ⟨r6, hr6⟩ : ∃ r, r = q_ref08_Get_6 := ⟨_, rfl⟩; rw [← hr6]
  obtain ⟨r7, hr7⟩ : ∃ r, r = q_ref08_Get_7 := ⟨_, rfl⟩; rw [← hr7]
  obtain ⟨r9, hr9⟩ : ∃ r, r = q_ref08_Get_9 := ⟨_, rfl⟩; rw [← hr9]
  obtain ⟨r10, hr10⟩ : ∃ r, r = q_ref08_Get_10 := ⟨_, rfl⟩; rw [← hr10]
  obtain ⟨r11, hr11⟩ : ∃ r, r = q_ref08_Get_11 := ⟨_, rfl⟩; rw [← hr11]
  obtain ⟨r13, hr13⟩ : ∃ r, r = q_ref08_Get_13 := ⟨_, rfl⟩; rw [← hr13]
  simp -implicitDefEqProofs [q_ref08_Get_0, q_ref08_Get_1, q_ref08_Get_2, hl]
  intro g1 g2 n1 n2
  obtain ⟨Y, hY⟩ : ∃ Y, Y = (H0.set g1 (.var 54 [.iarr .u8 256 (ints x)])).set g2 (.var 60 [.int .i64 0, .int .i64 0, .int .i64 0, .int .i64 0, .int .i64 0]) := ⟨_, rfl⟩
  try simp only [← hY]
  have y1 : Y g1 = some (.var 54 [.iarr .u8 256 (ints x)]) := by rw [hY]; simp [*]
  have y2 : Y g2 = some (.var 60 [.int .i64 0, .int .i64 0, .int .i64 0, .int .i64 0, .int .i64 0]) := by rw [hY, set_eq']
  clear hY n1 n2
  refine X_lp (GetU x g1 g2 Y) (fun i => 24 - i) 16 ⟨by omega, by omega, by simp, by simp, by simp, by simpa using SlS.nil (Sub_refl Y)⟩ ?_
  rintro i env B ⟨lo, hi, e1, e2, e5, hw⟩
  have hB1 := hw.sub _ _ y1
  have hB2 := hw.sub _ _ y2
  rw [q_ref08_Get_L6]
  obtain ⟨r5, hr5⟩ : ∃ r, r = q_ref08_Get_5 := ⟨_, rfl⟩; rw [← hr5]
  simp -implicitDefEqProofs [q_ref08_Get_3, e5]
  refine ⟨fun hlt => ?_, fun hge => ?_⟩
  · have hii : (i : Int) < 256 := by omega
    have wi : IntKind.i64.wrap ((i : Int) + 1) = (i : Int) + 1 := wrap_i64 (by omega)
    have hil : i < x.length := by omega
    obtain ⟨p, hp⟩ : ∃ p, p = x[i] := ⟨_, rfl⟩
    have hpd : x[i]?.getD 0 = p := by rw [List.getElem?_eq_getElem hil, hp]; rfl
    have htk : (x.drop 16).take (i + 1 - 16) = (x.drop 16).take (i - 16) ++ [p] := by
      have h1 : i - 16 < (x.drop 16).length := by rw [List.length_drop]; omega
      rw [show i + 1 - 16 = (i - 16) + 1 by omega, List.take_succ_eq_append_getElem h1, List.getElem_drop]
      congr 2
      rw [hp]; congr 1; omega
    simp -implicitDefEqProofs [q_ref08_Get_4, e1, e5, hB1, hl, hii, hpd]
    intro g' hg'
    have hlen : ((x.drop 16).take (i - 16)).length ≤ 8 := by simp; omega
    refine hw.appS (ys := [(p : Int)]) (sub_none hg') (srcI_row set_eq' rfl) (by simp; omega) fun w' D h' hag => ?_
    simp -implicitDefEqProofs
    simp -implicitDefEqProofs [hr5, q_ref08_Get_5, e5, wi]
    refine lp_next (i + 1) ⟨by omega, by omega, by simp [e1], by simp [e2], by simp, ?_⟩ (by omega)
    rw [htk, show ints ((x.drop 16).take (i - 16) ++ [p]) = ints ((x.drop 16).take (i - 16)) ++ [(p : Int)] by simp [ints]]
    simpa using h'
  · have hie : i = 24 := by omega
    subst hie
    have hs := hw.scl
    have hf8 : leN ((x.drop 16).take (24 - 16)) = fld x 16 8 := rfl
    have f8 : fld x 16 8 < 2 ^ 64 := leN_lt8 (bytes_take (bytes_drop hx 16) 8) (by simp; omega)
    have flt : ∀ i, fld x i 2 < 65536 := fun i => by
      have h := leN_lt ((x.drop i).take 2) (bytes_take (bytes_drop hx i) 2)
      have h2 : ((x.drop i).take 2).length ≤ 2 := by simp; omega
      have h3 : 256 ^ ((x.drop i).take 2).length ≤ 256 ^ 2 := Nat.pow_le_pow_right (by decide) h2
      unfold fld; omega
    have hG := w_ref01_Get ((x.drop 16).take (24 - 16)) (bytes_take (bytes_drop hx 16) _) (by simp; omega)
    rw [hf8] at hG
    simp -implicitDefEqProofs [hr6, q_ref08_Get_6, hs.shp, hs.good, hs.comps, hs.agg]
    refine hG.call (.cons hw.vw hs.agg .nil) rfl ?_
    simp -implicitDefEqProofs
    have hOs : supO x = true ↔ SupOK x := supO_iff hx hl
    by_cases h5 : fld x 16 8 ≤ 1099511627776
    · have h5' : ¬ (1099511627776 : Int) < (fld x 16 8 : Nat) := by omega
      have wf : IntKind.i64.wrap ((fld x 16 8 : Nat) : Int) = ((fld x 16 8 : Nat) : Int) := wrap_i64 (by omega)
      simp -implicitDefEqProofs [hr7, q_ref08_Get_7, h5']
      have k8 := w_ref08_num hx hl (i := 8) (by decide)
      have k10 := w_ref08_num hx hl (i := 10) (by decide)
      have k12 := w_ref08_num hx hl (i := 12) (by decide)
      have k14 := w_ref08_num hx hl (i := 14) (by decide)
      simp -implicitDefEqProofs [hr9, q_ref08_Get_9, e1, hB1, hl, wf]
      refine k8.call (.cons (.refl _) rfl (.cons (.refl _) rfl .nil)) rfl ?_
      simp -implicitDefEqProofs [Sub_refl]
      refine k10.call (.cons (.refl _) rfl (.cons (.refl _) rfl .nil)) rfl ?_
      simp -implicitDefEqProofs [Sub_refl]
      refine k12.call (.cons (.refl _) rfl (.cons (.refl _) rfl .nil)) rfl ?_
      simp -implicitDefEqProofs [Sub_refl]
      refine k14.call (.cons (.refl _) rfl (.cons (.refl _) rfl .nil)) rfl ?_
      simp -implicitDefEqProofs [Sub_refl]
      intro g7 hg7
      have n27 : ¬ g2 = g7 := fun e => by rw [← e, hB2] at hg7; cases hg7
      have n17 : ¬ g1 = g7 := fun e => by rw [← e, hB1] at hg7; cases hg7
      obtain ⟨Z, hZ⟩ : ∃ Z, Z = B.set g7 (.var 60 [.int .i64 (fld x 8 2 : Nat), .int .i64 (fld x 10 2 : Nat), .int .i64 (fld x 12 2 : Nat), .int .i64 (fld x 14 2 : Nat), .int .i64 (fld x 16 8 : Nat)]) := ⟨_, rfl⟩
      try simp only [← hZ]
      have z7 : Z g7 = some (.var 60 [.int .i64 (fld x 8 2 : Nat), .int .i64 (fld x 10 2 : Nat), .int .i64 (fld x 12 2 : Nat), .int .i64 (fld x 14 2 : Nat), .int .i64 (fld x 16 8 : Nat)]) := by rw [hZ, set_eq']
      have z2 : Z g2 = some (.var 60 [.int .i64 0, .int .i64 0, .int .i64 0, .int .i64 0, .int .i64 0]) := by rw [hZ, set_ne' n27]; exact hB2
      have z1 : Z g1 = some (.var 54 [.iarr .u8 256 (ints x)]) := by rw [hZ, set_ne' n17]; exact hB1
      clear hZ
      have hP := w_ref08_Put (fld x 8 2 : Nat) (fld x 10 2 : Nat) (fld x 12 2 : Nat) (fld x 14 2 : Nat) (fld x 16 8 : Nat)
      unfold supV at hP
      obtain ⟨S, hS⟩ : ∃ S, S = supS (fld x 8 2 : Nat) (fld x 10 2 : Nat) (fld x 12 2 : Nat) (fld x 14 2 : Nat) (fld x 16 8 : Nat) := ⟨_, rfl⟩
      obtain ⟨k, hk⟩ : ∃ k, k = supC (fld x 8 2 : Nat) (fld x 10 2 : Nat) (fld x 12 2 : Nat) (fld x 14 2 : Nat) (fld x 16 8 : Nat) := ⟨_, rfl⟩
      have hSl : S.length = 256 := by
        rw [hS]; unfold supS; split
        · exact sealN_len _
        · rfl
      have hok : supO x = decide (k = 0 ∧ S = x) := by
        have hiff : SupOK x ↔ (k = 0 ∧ S = x) := by
          constructor
          · rintro ⟨h1, h2, h3⟩
            have hk0 : k = 0 := by
              have hpc : planCode (fld x 8 2) (fld x 10 2) (fld x 12 2) (fld x 14 2) = 0 := if_pos h2
              rw [hk]; unfold supC
              rw [hpc, if_neg (by simp), if_neg (by omega)]
            refine ⟨hk0, ?_⟩
            rw [hS]; unfold supS
            rw [if_pos (by rw [← hk]; exact hk0)]
            simp only [Int.toNat_natCast]
            exact h1.symm
          · rintro ⟨h1, h2⟩
            have hp : planOk (fld x 8 2) (fld x 10 2) (fld x 12 2) (fld x 14 2) := by
              by_cases h : planOk (fld x 8 2) (fld x 10 2) (fld x 12 2) (fld x 14 2)
              · exact h
              · have hpc : planCode (fld x 8 2) (fld x 10 2) (fld x 12 2) (fld x 14 2) = 2 := if_neg h
                rw [hk] at h1; unfold supC at h1
                rw [hpc] at h1; simp at h1
            refine ⟨?_, hp, h5⟩
            rw [hS] at h2; unfold supS at h2
            rw [if_pos (by rw [← hk]; exact h1)] at h2
            simp only [Int.toNat_natCast] at h2
            exact h2.symm
        cases h : supO x with
        | true => exact (decide_eq_true (hiff.1 (hOs.1 h))).symm
        | false => exact (decide_eq_false fun hh => by rw [hOs.2 (hiff.2 hh)] at h; cases h).symm
      rw [← hS, ← hk] at hP
      simp -implicitDefEqProofs [hr10, q_ref08_Get_10, z7]
      refine hP.call (.cons (.refl _) rfl .nil) rfl ?_
      simp -implicitDefEqProofs [hSl]
      intro g8 hg8
      have n28 : ¬ g2 = g8 := fun e => by rw [← e, z2] at hg8; cases hg8
      have n18 : ¬ g1 = g8 := fun e => by rw [← e, z1] at hg8; cases hg8
      have n78 : ¬ g7 = g8 := fun e => by rw [← e, z7] at hg8; cases hg8
      have hq : eqI 256 (ints S) (ints x) = decide (S = x) := eqB hSl hl
      by_cases hk0 : k = 0
      · by_cases hSx : S = x
        · rw [decide_eq_true hSx] at hq
          rw [hok, decide_eq_true ⟨hk0, hSx⟩]
          simp -implicitDefEqProofs [hr11, q_ref08_Get_11, hk0, e1, z1, n18, hl, hSl, hq]
          simp -implicitDefEqProofs [hr13, q_ref08_Get_13, e2, z2, z7, n28, n78, supG, supGC, supV, outOf]
        · rw [decide_eq_false hSx] at hq
          rw [hok, decide_eq_false (fun h => hSx h.2)]
          simp -implicitDefEqProofs [hr11, q_ref08_Get_11, hk0, e1, z1, n18, hl, hSl, hq]
          simp -implicitDefEqProofs [q_ref08_Get_12, e2, z2, n28, supG, supGC, supV, outOf]
      · rw [hok, decide_eq_false (fun h => hk0 h.1)]
        simp -implicitDefEqProofs [hr11, q_ref08_Get_11, hk0]
        simp -implicitDefEqProofs [q_ref08_Get_12, e2, z2, n28, supG, supGC, supV, outOf]
    · have h5' : (1099511627776 : Int) < (fld x 16 8 : Nat) := by omega
      have hno : supO x = false := by
        cases h : supO x with
        | false => rfl
        | true => exact absurd (hOs.1 h).num h5
      rw [hno]
      simp -implicitDefEqProofs [hr7, q_ref08_Get_7, q_ref08_Get_8, h5', e2, hB2, supG, supGC, supV, outOf]
end Go.Proofs.Ytilgdnbijkcboaa

/- Abstract programs; that they are the program's. -/
namespace Go.Proofs.Ytilgdnbijkcboaa
open Go AVL
set_option linter.unusedVariables false
set_option maxRecDepth 20000

def q_disk_New_0 : List AOper := [
  ⟨(some 2), (.mv (.v .nilP)), none⟩,
  ⟨(some 3), (.mv (.v (.int .i64 0))), none⟩]
def q_disk_New_1 : List AOper := [
  ⟨(some 4), (.mv (.t 0)), none⟩,
  ⟨(some 5), (.bin .lss (.t 4) (.v (.int .i64 1))), none⟩,
  ⟨(some 6), (.mv (.t 5)), none⟩,
  ⟨(some 7), (.mv (.t 0)), (some (6, false))⟩,
  ⟨(some 8), (.bin .gtr (.t 7) (.v (.int .i64 4096))), (some (6, false))⟩,
  ⟨(some 9), (.pick (.t 6) (.v (.bool true)) (.t 8)), none⟩]
def q_disk_New_2 : List AOper := [
  ⟨(some 2), (.mv (.v .nilP)), none⟩,
  ⟨(some 3), (.mv (.v (.int .i64 2))), none⟩]
def q_disk_New_3 : List AOper := [
  ⟨(some 10), (.mv (.t 0)), none⟩,
  ⟨(some 11), (.mk 54 256 256 (.iarr .u8 256 (List.replicate 256 0)) (.t 10) (.t 10)), none⟩,
  ⟨(some 12), (.xx (.mkM .i64) []), none⟩,
  ⟨(some 13), (.build .ag [.nilS, .nilS, .nilM, (.int .i64 0), (.int .i64 0), (.bool false)] [(0, (1, (.t 11))), (2, (1, (.t 12))), (4, (1, (.v (.int .i64 (-1)))))]), none⟩,
  ⟨(some 14), (.box 132 .ag (.t 13)), none⟩,
  ⟨(some 2), (.mv (.t 14)), none⟩,
  ⟨(some 3), (.mv (.v (.int .i64 0))), none⟩]
def a_disk_New : AFunc := ⟨[(.tmp 2), (.tmp 3)], (.seq (.region q_disk_New_0) (.seq (.seq (.region q_disk_New_1) (.cond (.t 9) (.seq (.region q_disk_New_2) .ret) .skip)) (.seq (.region q_disk_New_3) .ret)))⟩

def q_Pdisk_Disk_Read_0 : List AOper := [
  ⟨(some 4), (.alloc 54 [(.iarr .u8 256 (List.replicate 256 0))]), none⟩,
  ⟨(some 5), (.mv (.v (.int .i64 0))), none⟩]
def q_Pdisk_Disk_Read_1 : List AOper := [
  ⟨(some 9), (.mv (.t 0)), none⟩,
  ⟨(some 10), (.mv (.t 1)), none⟩,
  ⟨(some 11), (.call F_Pdisk_Disk_inside [(.sc, (.t 9)), (.sc, (.t 10))]), none⟩,
  ⟨(some 12), (.un .not (.t 11)), none⟩,
  ⟨(some 8), (.mv (.t 12)), none⟩]
def q_Pdisk_Disk_Read_2 : List AOper := [
  ⟨(some 13), (.build (.ia .u8 256) [(.iarr .u8 256 (List.replicate 256 0))] []), none⟩,
  ⟨none, (.store (.ia .u8 256) 256 (.t 4) (.t 13)), none⟩,
  ⟨(some 5), (.mv (.v (.int .i64 2))), none⟩]
def q_Pdisk_Disk_Read_3 : List AOper := [
  ⟨(some 15), (.mv (.t 0)), none⟩,
  ⟨(some 16), (.xx (.p .nilCk) [(.t 15)]), none⟩,
  ⟨(some 17), (.fadr 5 1 .sc (.t 16)), none⟩,
  ⟨(some 18), (.load .sc 1 (.t 17)), none⟩,
  ⟨(some 14), (.mv (.t 18)), none⟩]
def q_Pdisk_Disk_Read_4 : List AOper := [
  ⟨(some 19), (.build (.ia .u8 256) [(.iarr .u8 256 (List.replicate 256 0))] []), none⟩,
  ⟨none, (.store (.ia .u8 256) 256 (.t 4) (.t 19)), none⟩,
  ⟨(some 5), (.mv (.v (.int .i64 4))), none⟩]
def q_Pdisk_Disk_Read_5 : List AOper := [
  ⟨(some 21), (.mv (.t 0)), none⟩,
  ⟨(some 22), (.xx (.p .nilCk) [(.t 21)]), none⟩,
  ⟨(some 23), (.fadr 2 1 .sc (.t 22)), none⟩,
  ⟨(some 24), (.load .sc 1 (.t 23)), none⟩,
  ⟨(some 25), (.mv (.t 1)), none⟩,
  ⟨(some 26), (.xx (.lkM .i64 (.iarr .u8 256 (List.replicate 256 0)) true) [(.t 24), (.t 25)]), none⟩,
  ⟨(some 20), (.mv (.t 26)), none⟩,
  ⟨(some 27), (.ext 0 (.t 20)), none⟩,
  ⟨(some 28), (.ext 1 (.t 20)), none⟩,
  ⟨(some 6), (.alloc 54 [(.iarr .u8 256 (List.replicate 256 0))]), none⟩,
  ⟨none, (.store (.ia .u8 256) 256 (.t 6) (.t 27)), none⟩,
  ⟨(some 7), (.mv (.t 28)), none⟩]
def q_Pdisk_Disk_Read_6 : List AOper := [
  ⟨(some 29), (.mv (.t 7)), none⟩]
def q_Pdisk_Disk_Read_7 : List AOper := [
  ⟨(some 30), (.load (.ia .u8 256) 256 (.t 6)), none⟩,
  ⟨none, (.store (.ia .u8 256) 256 (.t 4) (.t 30)), none⟩,
  ⟨(some 5), (.mv (.v (.int .i64 0))), none⟩]
def q_Pdisk_Disk_Read_8 : List AOper := [
  ⟨(some 31), (.mv (.t 0)), none⟩,
  ⟨(some 32), (.xx (.p .nilCk) [(.t 31)]), none⟩,
  ⟨(some 33), (.fadr 0 1 .sc (.t 32)), none⟩,
  ⟨(some 34), (.load .sc 1 (.t 33)), none⟩,
  ⟨(some 35), (.mv (.t 1)), none⟩,
  ⟨(some 36), (.idx 256 (.t 34) (.t 35)), none⟩,
  ⟨(some 37), (.load (.ia .u8 256) 256 (.t 36)), none⟩,
  ⟨none, (.store (.ia .u8 256) 256 (.t 4) (.t 37)), none⟩,
  ⟨(some 5), (.mv (.v (.int .i64 0))), none⟩]
def a_Pdisk_Disk_Read : AFunc := ⟨[(.cell 4 (.ia .u8 256) 256), (.tmp 5)], (.seq (.region q_Pdisk_Disk_Read_0) (.seq (.block 0 (.seq (.region q_Pdisk_Disk_Read_1) (.cond (.t 8) (.seq (.region q_Pdisk_Disk_Read_2) .ret) (.seq (.region q_Pdisk_Disk_Read_3) (.cond (.t 14) (.seq (.region q_Pdisk_Disk_Read_4) .ret) .skip))))) (.seq (.seq (.region q_Pdisk_Disk_Read_5) (.seq (.region q_Pdisk_Disk_Read_6) (.cond (.t 29) (.seq (.region q_Pdisk_Disk_Read_7) .ret) .skip))) (.seq (.region q_Pdisk_Disk_Read_8) .ret))))⟩

def q_Pdisk_Disk_Write_0 : List AOper := [
  ⟨(some 5), (.box 54 (.ia .u8 256) (.t 2)), none⟩,
  ⟨(some 6), (.mv (.v (.int .i64 0))), none⟩]
def q_Pdisk_Disk_Write_1 : List AOper := [
  ⟨(some 8), (.mv (.t 0)), none⟩,
  ⟨(some 9), (.mv (.t 1)), none⟩,
  ⟨(some 10), (.call F_Pdisk_Disk_inside [(.sc, (.t 8)), (.sc, (.t 9))]), none⟩,
  ⟨(some 11), (.un .not (.t 10)), none⟩]
def q_Pdisk_Disk_Write_2 : List AOper := [
  ⟨(some 6), (.mv (.v (.int .i64 2))), none⟩]
def q_Pdisk_Disk_Write_3 : List AOper := [
  ⟨(some 12), (.mv (.t 0)), none⟩,
  ⟨(some 13), (.call F_Pdisk_Disk_step [(.sc, (.t 12))]), none⟩,
  ⟨(some 7), (.mv (.t 13)), none⟩]
def q_Pdisk_Disk_Write_4 : List AOper := [
  ⟨(some 14), (.mv (.t 7)), none⟩,
  ⟨(some 15), (.eq .scI true (.t 14) (.v (.int .i64 0))), none⟩]
def q_Pdisk_Disk_Write_5 : List AOper := [
  ⟨(some 16), (.mv (.t 7)), none⟩,
  ⟨(some 6), (.mv (.t 16)), none⟩]
def q_Pdisk_Disk_Write_6 : List DOp := [
  ⟨⟨(some 17), (.mv (.t 0)), none⟩, true, false, none, []⟩,
  ⟨⟨(some 18), (.mv (.t 0)), none⟩, true, false, none, []⟩,
  ⟨⟨(some 19), (.xx (.p .nilCk) [(.t 18)]), none⟩, true, false, none, []⟩,
  ⟨⟨(some 20), (.fadr 1 1 .sc (.t 19)), none⟩, true, false, none, []⟩,
  ⟨⟨(some 21), (.load .sc 1 (.t 20)), none⟩, true, false, none, []⟩,
  ⟨⟨(some 22), (.mv (.t 1)), none⟩, true, false, none, []⟩,
  ⟨⟨(some 23), (.load (.ia .u8 256) 256 (.t 5)), none⟩, true, false, none, []⟩,
  ⟨⟨(some 24), (.build .ag [(.int .i64 0), (.iarr .u8 256 (List.replicate 256 0))] [(0, (1, (.t 22))), (1, (256, (.t 23)))]), none⟩, true, false, none, []⟩,
  ⟨⟨(some 25), (.bsl 135 .ag 257 [(.t 24)]), none⟩, false, false, none, []⟩,
  ⟨⟨(some 26), (.app 135 257 264 (.t 21) (.t 25)), none⟩, false, false, none, []⟩,
  ⟨⟨(some 27), (.xx (.p .nilCk) [(.t 17)]), none⟩, true, false, none, []⟩,
  ⟨⟨(some 28), (.fadr 1 1 .sc (.t 27)), none⟩, true, false, none, []⟩,
  ⟨⟨none, (.store .sc 1 (.t 28) (.t 26)), none⟩, false, false, none, []⟩]
def q_Pdisk_Disk_Write_7 : List DOp := [
  ⟨⟨(some 29), (.mv (.t 0)), none⟩, true, false, none, []⟩,
  ⟨⟨(some 30), (.xx (.p .nilCk) [(.t 29)]), none⟩, true, false, none, []⟩,
  ⟨⟨(some 31), (.fadr 2 1 .sc (.t 30)), none⟩, true, false, none, []⟩,
  ⟨⟨(some 32), (.load .sc 1 (.t 31)), none⟩, true, false, none, []⟩,
  ⟨⟨(some 33), (.mv (.t 1)), none⟩, true, false, none, []⟩,
  ⟨⟨(some 34), (.load (.ia .u8 256) 256 (.t 5)), none⟩, true, false, none, []⟩,
  ⟨⟨none, (.xx (.upM .i64) [(.t 32), (.t 33), (.t 34)]), none⟩, false, false, none, []⟩]
def q_Pdisk_Disk_Write_8 : List AOper := [
  ⟨(some 6), (.mv (.v (.int .i64 0))), none⟩]
def a_Pdisk_Disk_Write : AFunc := ⟨[(.tmp 6)], (.seq (.region q_Pdisk_Disk_Write_0) (.seq (.seq (.region q_Pdisk_Disk_Write_1) (.cond (.t 11) (.seq (.region q_Pdisk_Disk_Write_2) .ret) .skip)) (.seq (.seq (.region q_Pdisk_Disk_Write_3) (.seq (.region q_Pdisk_Disk_Write_4) (.cond (.t 15) (.seq (.region q_Pdisk_Disk_Write_5) .ret) .skip))) (.seq (.regionD q_Pdisk_Disk_Write_6) (.seq (.regionD q_Pdisk_Disk_Write_7) (.seq (.region q_Pdisk_Disk_Write_8) .ret))))))⟩

def q_Pdisk_Disk_Flush_0 : List AOper := [
  ⟨(some 2), (.mv (.v (.int .i64 0))), none⟩]
def q_Pdisk_Disk_Flush_1 : List AOper := [
  ⟨(some 4), (.mv (.t 0)), none⟩,
  ⟨(some 5), (.call F_Pdisk_Disk_step [(.sc, (.t 4))]), none⟩,
  ⟨(some 3), (.mv (.t 5)), none⟩]
def q_Pdisk_Disk_Flush_2 : List AOper := [
  ⟨(some 6), (.mv (.t 3)), none⟩,
  ⟨(some 7), (.eq .scI true (.t 6) (.v (.int .i64 0))), none⟩]
def q_Pdisk_Disk_Flush_3 : List AOper := [
  ⟨(some 8), (.mv (.t 3)), none⟩,
  ⟨(some 2), (.mv (.t 8)), none⟩]
def q_Pdisk_Disk_Flush_4 : List AOper := [
  ⟨(some 9), (.mv (.t 0)), none⟩,
  ⟨(some 10), (.call F_Pdisk_Disk_settle [(.sc, (.t 9)), (.sc, (.v (.func (.func F_Pdisk_Disk_Flush_1) [] [])))]), none⟩]
def q_Pdisk_Disk_Flush_5 : List AOper := [
  ⟨(some 2), (.mv (.v (.int .i64 0))), none⟩]
def a_Pdisk_Disk_Flush : AFunc := ⟨[(.tmp 2)], (.seq (.region q_Pdisk_Disk_Flush_0) (.seq (.seq (.region q_Pdisk_Disk_Flush_1) (.seq (.region q_Pdisk_Disk_Flush_2) (.cond (.t 7) (.seq (.region q_Pdisk_Disk_Flush_3) .ret) .skip))) (.seq (.region q_Pdisk_Disk_Flush_4) (.seq (.region q_Pdisk_Disk_Flush_5) .ret))))⟩

def q_Pdisk_Disk_Flush_1_0 : List AOper := [
  ⟨(some 2), (.mv (.v (.bool false))), none⟩]
def q_Pdisk_Disk_Flush_1_1 : List AOper := [
  ⟨(some 2), (.mv (.v (.bool true))), none⟩]
def a_Pdisk_Disk_Flush_1 : AFunc := ⟨[(.tmp 2)], (.seq (.region q_Pdisk_Disk_Flush_1_0) (.seq (.region q_Pdisk_Disk_Flush_1_1) .ret))⟩

def q_Pdisk_Disk_Fuse_0 : List AOper := [
  ⟨(some 4), (.mv (.t 0)), none⟩,
  ⟨(some 5), (.mv (.t 1)), none⟩,
  ⟨(some 6), (.xx (.p (.mnI true)) [(.t 5), (.v (.int .i64 (-1)))]), none⟩,
  ⟨(some 7), (.xx (.p .nilCk) [(.t 4)]), none⟩,
  ⟨(some 8), (.fadr 4 1 .sc (.t 7)), none⟩,
  ⟨none, (.store .sc 1 (.t 8) (.t 6)), none⟩]
def a_Pdisk_Disk_Fuse : AFunc := ⟨[], (.region q_Pdisk_Disk_Fuse_0)⟩

def q_Pdisk_Disk_Crash_0 : List AOper := [
  ⟨(some 3), (.box 75 .sc (.t 1)), none⟩,
  ⟨(some 4), (.mv (.v (.int .i64 0))), none⟩]
def q_Pdisk_Disk_Crash_1 : List AOper := [
  ⟨(some 5), (.mv (.t 0)), none⟩,
  ⟨(some 6), (.mv (.t 0)), none⟩,
  ⟨(some 7), (.xx (.p .nilCk) [(.t 5)]), none⟩,
  ⟨(some 8), (.fadr 5 1 .sc (.t 7)), none⟩,
  ⟨none, (.store .sc 1 (.t 8) (.v (.bool false))), none⟩,
  ⟨(some 9), (.xx (.p .nilCk) [(.t 6)]), none⟩,
  ⟨(some 10), (.fadr 4 1 .sc (.t 9)), none⟩,
  ⟨none, (.store .sc 1 (.t 10) (.v (.int .i64 (-1)))), none⟩]
def q_Pdisk_Disk_Crash_2 : List AOper := [
  ⟨(some 11), (.mv (.t 0)), none⟩,
  ⟨(some 12), (.xx (.p (.mkF (.func F_Pdisk_Disk_Crash_1) 0)) [(.t 3)]), none⟩,
  ⟨(some 13), (.call F_Pdisk_Disk_settle [(.sc, (.t 11)), (.sc, (.t 12))]), none⟩,
  ⟨(some 4), (.mv (.t 13)), none⟩]
def a_Pdisk_Disk_Crash : AFunc := ⟨[(.tmp 4)], (.seq (.region q_Pdisk_Disk_Crash_0) (.seq (.region q_Pdisk_Disk_Crash_1) (.seq (.region q_Pdisk_Disk_Crash_2) .ret)))⟩

def q_Pdisk_Disk_Crash_1_0 : List AOper := [
  ⟨(some 3), (.mv (.v (.bool false))), none⟩]
def q_Pdisk_Disk_Crash_1_1 : List AOper := [
  ⟨(some 4), (.mv (.t 0)), none⟩,
  ⟨(some 5), (.load .sc 1 (.t 1)), none⟩,
  ⟨(some 6), (.len false (.t 5)), none⟩,
  ⟨(some 7), (.bin .lss (.t 4) (.t 6)), none⟩,
  ⟨(some 8), (.mv (.t 7)), none⟩,
  ⟨(some 9), (.load .sc 1 (.t 1)), (some (8, true))⟩,
  ⟨(some 10), (.mv (.t 0)), (some (8, true))⟩,
  ⟨(some 11), (.idx 1 (.t 9) (.t 10)), (some (8, true))⟩,
  ⟨(some 12), (.load .sc 1 (.t 11)), (some (8, true))⟩,
  ⟨(some 13), (.pick (.t 8) (.t 12) (.v (.bool false))), none⟩,
  ⟨(some 3), (.mv (.t 13)), none⟩]
def a_Pdisk_Disk_Crash_1 : AFunc := ⟨[(.tmp 3)], (.seq (.region q_Pdisk_Disk_Crash_1_0) (.seq (.region q_Pdisk_Disk_Crash_1_1) .ret))⟩

def q_Pdisk_Disk_Waits_0 : List AOper := [
  ⟨(some 2), (.mv (.v (.int .i64 0))), none⟩]
def q_Pdisk_Disk_Waits_1 : List AOper := [
  ⟨(some 3), (.mv (.t 0)), none⟩,
  ⟨(some 4), (.xx (.p .nilCk) [(.t 3)]), none⟩,
  ⟨(some 5), (.fadr 1 1 .sc (.t 4)), none⟩,
  ⟨(some 6), (.load .sc 1 (.t 5)), none⟩,
  ⟨(some 7), (.len false (.t 6)), none⟩,
  ⟨(some 2), (.mv (.t 7)), none⟩]
def a_Pdisk_Disk_Waits : AFunc := ⟨[(.tmp 2)], (.seq (.region q_Pdisk_Disk_Waits_0) (.seq (.region q_Pdisk_Disk_Waits_1) .ret))⟩

def q_Pdisk_Disk_inside_0 : List AOper := [
  ⟨(some 4), (.mv (.v (.bool false))), none⟩]
def q_Pdisk_Disk_inside_1 : List AOper := [
  ⟨(some 5), (.mv (.t 1)), none⟩,
  ⟨(some 6), (.bin .geq (.t 5) (.v (.int .i64 0))), none⟩,
  ⟨(some 7), (.mv (.t 6)), none⟩,
  ⟨(some 8), (.mv (.t 1)), (some (7, true))⟩,
  ⟨(some 9), (.mv (.t 0)), (some (7, true))⟩,
  ⟨(some 10), (.xx (.p .nilCk) [(.t 9)]), (some (7, true))⟩,
  ⟨(some 11), (.fadr 0 1 .sc (.t 10)), (some (7, true))⟩,
  ⟨(some 12), (.load .sc 1 (.t 11)), (some (7, true))⟩,
  ⟨(some 13), (.len false (.t 12)), (some (7, true))⟩,
  ⟨(some 14), (.bin .lss (.t 8) (.t 13)), (some (7, true))⟩,
  ⟨(some 15), (.pick (.t 7) (.t 14) (.v (.bool false))), none⟩,
  ⟨(some 4), (.mv (.t 15)), none⟩]
def a_Pdisk_Disk_inside : AFunc := ⟨[(.tmp 4)], (.seq (.region q_Pdisk_Disk_inside_0) (.seq (.region q_Pdisk_Disk_inside_1) .ret))⟩

def q_Pdisk_Disk_step_0 : List AOper := [
  ⟨(some 2), (.mv (.v (.int .i64 0))), none⟩]
def q_Pdisk_Disk_step_1 : List AOper := [
  ⟨(some 3), (.mv (.t 0)), none⟩,
  ⟨(some 4), (.xx (.p .nilCk) [(.t 3)]), none⟩,
  ⟨(some 5), (.fadr 5 1 .sc (.t 4)), none⟩,
  ⟨(some 6), (.load .sc 1 (.t 5)), none⟩,
  ⟨(some 7), (.mv (.t 6)), none⟩,
  ⟨(some 8), (.mv (.t 0)), (some (7, false))⟩,
  ⟨(some 9), (.xx (.p .nilCk) [(.t 8)]), (some (7, false))⟩,
  ⟨(some 10), (.fadr 4 1 .sc (.t 9)), (some (7, false))⟩,
  ⟨(some 11), (.load .sc 1 (.t 10)), (some (7, false))⟩,
  ⟨(some 12), (.eq .scI false (.t 11) (.v (.int .i64 0))), (some (7, false))⟩,
  ⟨(some 13), (.pick (.t 7) (.v (.bool true)) (.t 12)), none⟩]
def q_Pdisk_Disk_step_2 : List AOper := [
  ⟨(some 14), (.mv (.t 0)), none⟩,
  ⟨(some 15), (.xx (.p .nilCk) [(.t 14)]), none⟩,
  ⟨(some 16), (.fadr 5 1 .sc (.t 15)), none⟩,
  ⟨none, (.store .sc 1 (.t 16) (.v (.bool true))), none⟩]
def q_Pdisk_Disk_step_3 : List AOper := [
  ⟨(some 2), (.mv (.v (.int .i64 4))), none⟩]
def q_Pdisk_Disk_step_4 : List AOper := [
  ⟨(some 17), (.mv (.t 0)), none⟩,
  ⟨(some 18), (.xx (.p .nilCk) [(.t 17)]), none⟩,
  ⟨(some 19), (.fadr 4 1 .sc (.t 18)), none⟩,
  ⟨(some 20), (.load .sc 1 (.t 19)), none⟩,
  ⟨(some 21), (.bin .gtr (.t 20) (.v (.int .i64 0))), none⟩]
def q_Pdisk_Disk_step_5 : List AOper := [
  ⟨(some 22), (.mv (.t 0)), none⟩,
  ⟨(some 23), (.xx (.p .nilCk) [(.t 22)]), none⟩,
  ⟨(some 24), (.fadr 4 1 .sc (.t 23)), none⟩,
  ⟨(some 25), (.load .sc 1 (.t 24)), none⟩,
  ⟨(some 26), (.bin .sub (.t 25) (.v (.int .i64 1))), none⟩,
  ⟨(some 27), (.xx (.p .nilCk) [(.t 22)]), none⟩,
  ⟨(some 28), (.fadr 4 1 .sc (.t 27)), none⟩,
  ⟨none, (.store .sc 1 (.t 28) (.t 26)), none⟩]
def q_Pdisk_Disk_step_6 : List AOper := [
  ⟨(some 29), (.mv (.t 0)), none⟩,
  ⟨(some 30), (.xx (.p .nilCk) [(.t 29)]), none⟩,
  ⟨(some 31), (.fadr 3 1 .sc (.t 30)), none⟩,
  ⟨(some 32), (.load .sc 1 (.t 31)), none⟩,
  ⟨(some 33), (.bin .add (.t 32) (.v (.int .i64 1))), none⟩,
  ⟨(some 34), (.xx (.p .nilCk) [(.t 29)]), none⟩,
  ⟨(some 35), (.fadr 3 1 .sc (.t 34)), none⟩,
  ⟨none, (.store .sc 1 (.t 35) (.t 33)), none⟩]
def q_Pdisk_Disk_step_7 : List AOper := [
  ⟨(some 2), (.mv (.v (.int .i64 0))), none⟩]
def a_Pdisk_Disk_step : AFunc := ⟨[(.tmp 2)], (.seq (.region q_Pdisk_Disk_step_0) (.seq (.seq (.region q_Pdisk_Disk_step_1) (.cond (.t 13) (.seq (.region q_Pdisk_Disk_step_2) (.seq (.region q_Pdisk_Disk_step_3) .ret)) .skip)) (.seq (.seq (.region q_Pdisk_Disk_step_4) (.cond (.t 21) (.region q_Pdisk_Disk_step_5) .skip)) (.seq (.region q_Pdisk_Disk_step_6) (.seq (.region q_Pdisk_Disk_step_7) .ret)))))⟩

def q_Pdisk_Disk_settle_0 : List AOper := [
  ⟨(some 4), (.mv (.v (.int .i64 0))), none⟩]
def q_Pdisk_Disk_settle_1 : List AOper := [
  ⟨(some 5), (.mv (.v (.int .i64 0))), none⟩]
def q_Pdisk_Disk_settle_2 : List AOper := [
  ⟨(some 8), (.mv (.t 0)), none⟩,
  ⟨(some 9), (.xx (.p .nilCk) [(.t 8)]), none⟩,
  ⟨(some 10), (.fadr 1 1 .sc (.t 9)), none⟩,
  ⟨(some 11), (.load .sc 1 (.t 10)), none⟩,
  ⟨(some 12), (.len false (.t 11)), none⟩,
  ⟨(some 13), (.mv (.v (.int .i64 0))), none⟩]
def q_Pdisk_Disk_settle_3 : List AOper := [
  ⟨(some 14), (.bin .lss (.t 13) (.t 12)), none⟩]
def q_Pdisk_Disk_settle_4 : List AOper := [
  ⟨(some 15), (.mv (.t 13)), none⟩,
  ⟨(some 16), (.idx 257 (.t 11) (.t 13)), none⟩,
  ⟨(some 17), (.load .ag 257 (.t 16)), none⟩,
  ⟨(some 7), (.alloc 135 [(.int .i64 0), (.iarr .u8 256 (List.replicate 256 0))]), none⟩,
  ⟨(some 6), (.mv (.t 15)), none⟩,
  ⟨none, (.store .ag 257 (.t 7) (.t 17)), none⟩]
def q_Pdisk_Disk_settle_5 : List AOper := [
  ⟨(some 18), (.mv (.t 1)), none⟩,
  ⟨(some 19), (.mv (.t 6)), none⟩,
  ⟨(some 20), (.callV (.t 18) [(.sc, (.t 19))]), none⟩]
def q_Pdisk_Disk_settle_6 : List DOp := [
  ⟨⟨(some 21), (.mv (.t 0)), none⟩, true, false, none, []⟩,
  ⟨⟨(some 22), (.xx (.p .nilCk) [(.t 21)]), none⟩, true, false, none, []⟩,
  ⟨⟨(some 23), (.fadr 0 1 .sc (.t 22)), none⟩, true, false, none, []⟩,
  ⟨⟨(some 24), (.load .sc 1 (.t 23)), none⟩, true, false, none, []⟩,
  ⟨⟨(some 25), (.fadr 0 1 .sc (.t 7)), none⟩, true, false, none, []⟩,
  ⟨⟨(some 26), (.load .sc 1 (.t 25)), none⟩, true, false, none, []⟩,
  ⟨⟨(some 27), (.fadr 1 256 (.ia .u8 256) (.t 7)), none⟩, true, false, none, []⟩,
  ⟨⟨(some 28), (.load (.ia .u8 256) 256 (.t 27)), none⟩, true, false, none, []⟩,
  ⟨⟨(some 29), (.idx 256 (.t 24) (.t 26)), none⟩, true, false, none, []⟩,
  ⟨⟨none, (.store (.ia .u8 256) 256 (.t 29) (.t 28)), none⟩, false, false, none, []⟩]
def q_Pdisk_Disk_settle_7 : List AOper := [
  ⟨(some 30), (.mv (.t 5)), none⟩,
  ⟨(some 31), (.bin .add (.t 30) (.v (.int .i64 1))), none⟩,
  ⟨(some 5), (.mv (.t 31)), none⟩]
def q_Pdisk_Disk_settle_8 : List AOper := [
  ⟨(some 32), (.bin .add (.t 13) (.v (.int .i64 1))), none⟩,
  ⟨(some 13), (.mv (.t 32)), none⟩]
def q_Pdisk_Disk_settle_L9 : ACode := (.seq (.region q_Pdisk_Disk_settle_3) (.seq (.cond (.t 14) .skip (.exit 0)) (.seq (.block 1 (.seq (.region q_Pdisk_Disk_settle_4) (.seq (.region q_Pdisk_Disk_settle_5) (.cond (.t 20) (.seq (.regionD q_Pdisk_Disk_settle_6) (.region q_Pdisk_Disk_settle_7)) .skip)))) (.region q_Pdisk_Disk_settle_8))))
def q_Pdisk_Disk_settle_9 : List AOper := [
  ⟨(some 33), (.mv (.t 0)), none⟩,
  ⟨(some 34), (.mv (.t 0)), none⟩,
  ⟨(some 35), (.xx (.mkM .i64) []), none⟩,
  ⟨(some 36), (.xx (.p .nilCk) [(.t 33)]), none⟩,
  ⟨(some 37), (.fadr 1 1 .sc (.t 36)), none⟩,
  ⟨none, (.store .sc 1 (.t 37) (.v .nilS)), none⟩,
  ⟨(some 38), (.xx (.p .nilCk) [(.t 34)]), none⟩,
  ⟨(some 39), (.fadr 2 1 .sc (.t 38)), none⟩,
  ⟨none, (.store .sc 1 (.t 39) (.t 35)), none⟩]
def q_Pdisk_Disk_settle_10 : List AOper := [
  ⟨(some 40), (.mv (.t 5)), none⟩,
  ⟨(some 4), (.mv (.t 40)), none⟩]
def a_Pdisk_Disk_settle : AFunc := ⟨[(.tmp 4)], (.seq (.region q_Pdisk_Disk_settle_0) (.seq (.region q_Pdisk_Disk_settle_1) (.seq (.seq (.region q_Pdisk_Disk_settle_2) (.block 0 (.loop q_Pdisk_Disk_settle_L9))) (.seq (.region q_Pdisk_Disk_settle_9) (.seq (.region q_Pdisk_Disk_settle_10) .ret)))))⟩


theorem c_disk_New : trF Try.prog Try.f37 = some a_disk_New := by kernel_rfl
theorem g_disk_New : Try.prog.funcs[37]? = some Try.f37 := by kernel_rfl
theorem i_disk_New {args : List AV} {A : Heap} {Ko : AOut → Heap → Prop} (hn : args.length ≤ 15)
    (h : ∀ R : APost, (∀ e env A, fpost a_disk_New.res Ko e env A → R e env A) → X Try.prog R a_disk_New.body .done (env0 args) A) : SimX Try.prog F_disk_New args A Ko :=
  X_intro g_disk_New c_disk_New (by rw [Try.ntmps37]; exact hn) h
theorem v_disk_New {args : List AV} {v : AV} (hn : args.length ≤ 15) (h : X Try.prog (fin a_disk_New.res v) a_disk_New.body .done (env0 args) H0) : Gives Try.prog F_disk_New args v :=
  Gives_intro g_disk_New c_disk_New (by rw [Try.ntmps37]; exact hn) h
theorem e_disk_New {args : List AV} {Q : AOut → Prop} (hn : args.length ≤ 15) (h : X Try.prog (finE a_disk_New.res Q) a_disk_New.body .done (env0 args) H0) : Fins Try.prog F_disk_New args Q :=
  Fins_intro g_disk_New c_disk_New (by rw [Try.ntmps37]; exact hn) h
theorem j_disk_New {args : List AV} {A : Heap} {K Kp : AV → Heap → Prop} (hn : args.length ≤ 15) (h : X Try.prog (inl a_disk_New.res K Kp) a_disk_New.body .done (env0 args) A) : SimX Try.prog F_disk_New args A (outK K Kp) :=
  X_inl g_disk_New c_disk_New (by rw [Try.ntmps37]; exact hn) h
theorem d_disk_New {args : List AV} {A : Heap} {Ko : AOut → Heap → Prop} (hn : args.length ≤ 15) (hrf : AVL.Func.hasRF Try.f37 = false)
    (h : ∀ R : APost, (∀ e env A, fpost a_disk_New.res Ko e env A → R e env A) → X Try.prog R a_disk_New.body .done (env0 args) A) : SimD Try.prog F_disk_New args A Ko :=
  X_introD g_disk_New c_disk_New (by rw [Try.ntmps37]; exact hn) hrf h
@[simp] theorem k_disk_New : callable Try.prog F_disk_New = true := by kernel_rfl
theorem c_Pdisk_Disk_Read : trF Try.prog Try.f80 = some a_Pdisk_Disk_Read := by kernel_rfl
theorem g_Pdisk_Disk_Read : Try.prog.funcs[80]? = some Try.f80 := by kernel_rfl
theorem i_Pdisk_Disk_Read {args : List AV} {A : Heap} {Ko : AOut → Heap → Prop} (hn : args.length ≤ 38)
    (h : ∀ R : APost, (∀ e env A, fpost a_Pdisk_Disk_Read.res Ko e env A → R e env A) → X Try.prog R a_Pdisk_Disk_Read.body .done (env0 args) A) : SimX Try.prog F_Pdisk_Disk_Read args A Ko :=
  X_intro g_Pdisk_Disk_Read c_Pdisk_Disk_Read (by rw [Try.ntmps80]; exact hn) h
theorem v_Pdisk_Disk_Read {args : List AV} {v : AV} (hn : args.length ≤ 38) (h : X Try.prog (fin a_Pdisk_Disk_Read.res v) a_Pdisk_Disk_Read.body .done (env0 args) H0) : Gives Try.prog F_Pdisk_Disk_Read args v :=
  Gives_intro g_Pdisk_Disk_Read c_Pdisk_Disk_Read (by rw [Try.ntmps80]; exact hn) h
theorem e_Pdisk_Disk_Read {args : List AV} {Q : AOut → Prop} (hn : args.length ≤ 38) (h : X Try.prog (finE a_Pdisk_Disk_Read.res Q) a_Pdisk_Disk_Read.body .done (env0 args) H0) : Fins Try.prog F_Pdisk_Disk_Read args Q :=
  Fins_intro g_Pdisk_Disk_Read c_Pdisk_Disk_Read (by rw [Try.ntmps80]; exact hn) h
theorem j_Pdisk_Disk_Read {args : List AV} {A : Heap} {K Kp : AV → Heap → Prop} (hn : args.length ≤ 38) (h : X Try.prog (inl a_Pdisk_Disk_Read.res K Kp) a_Pdisk_Disk_Read.body .done (env0 args) A) : SimX Try.prog F_Pdisk_Disk_Read args A (outK K Kp) :=
  X_inl g_Pdisk_Disk_Read c_Pdisk_Disk_Read (by rw [Try.ntmps80]; exact hn) h
theorem d_Pdisk_Disk_Read {args : List AV} {A : Heap} {Ko : AOut → Heap → Prop} (hn : args.length ≤ 38) (hrf : AVL.Func.hasRF Try.f80 = false)
    (h : ∀ R : APost, (∀ e env A, fpost a_Pdisk_Disk_Read.res Ko e env A → R e env A) → X Try.prog R a_Pdisk_Disk_Read.body .done (env0 args) A) : SimD Try.prog F_Pdisk_Disk_Read args A Ko :=
  X_introD g_Pdisk_Disk_Read c_Pdisk_Disk_Read (by rw [Try.ntmps80]; exact hn) hrf h
@[simp] theorem k_Pdisk_Disk_Read : callable Try.prog F_Pdisk_Disk_Read = true := by kernel_rfl
theorem c_Pdisk_Disk_Write : trF Try.prog Try.f38 = some a_Pdisk_Disk_Write := by kernel_rfl
theorem g_Pdisk_Disk_Write : Try.prog.funcs[38]? = some Try.f38 := by kernel_rfl
theorem i_Pdisk_Disk_Write {args : List AV} {A : Heap} {Ko : AOut → Heap → Prop} (hn : args.length ≤ 35)
    (h : ∀ R : APost, (∀ e env A, fpost a_Pdisk_Disk_Write.res Ko e env A → R e env A) → X Try.prog R a_Pdisk_Disk_Write.body .done (env0 args) A) : SimX Try.prog F_Pdisk_Disk_Write args A Ko :=
  X_intro g_Pdisk_Disk_Write c_Pdisk_Disk_Write (by rw [Try.ntmps38]; exact hn) h
theorem v_Pdisk_Disk_Write {args : List AV} {v : AV} (hn : args.length ≤ 35) (h : X Try.prog (fin a_Pdisk_Disk_Write.res v) a_Pdisk_Disk_Write.body .done (env0 args) H0) : Gives Try.prog F_Pdisk_Disk_Write args v :=
  Gives_intro g_Pdisk_Disk_Write c_Pdisk_Disk_Write (by rw [Try.ntmps38]; exact hn) h
theorem e_Pdisk_Disk_Write {args : List AV} {Q : AOut → Prop} (hn : args.length ≤ 35) (h : X Try.prog (finE a_Pdisk_Disk_Write.res Q) a_Pdisk_Disk_Write.body .done (env0 args) H0) : Fins Try.prog F_Pdisk_Disk_Write args Q :=
  Fins_intro g_Pdisk_Disk_Write c_Pdisk_Disk_Write (by rw [Try.ntmps38]; exact hn) h
theorem j_Pdisk_Disk_Write {args : List AV} {A : Heap} {K Kp : AV → Heap → Prop} (hn : args.length ≤ 35) (h : X Try.prog (inl a_Pdisk_Disk_Write.res K Kp) a_Pdisk_Disk_Write.body .done (env0 args) A) : SimX Try.prog F_Pdisk_Disk_Write args A (outK K Kp) :=
  X_inl g_Pdisk_Disk_Write c_Pdisk_Disk_Write (by rw [Try.ntmps38]; exact hn) h
theorem d_Pdisk_Disk_Write {args : List AV} {A : Heap} {Ko : AOut → Heap → Prop} (hn : args.length ≤ 35) (hrf : AVL.Func.hasRF Try.f38 = false)
    (h : ∀ R : APost, (∀ e env A, fpost a_Pdisk_Disk_Write.res Ko e env A → R e env A) → X Try.prog R a_Pdisk_Disk_Write.body .done (env0 args) A) : SimD Try.prog F_Pdisk_Disk_Write args A Ko :=
  X_introD g_Pdisk_Disk_Write c_Pdisk_Disk_Write (by rw [Try.ntmps38]; exact hn) hrf h
@[simp] theorem k_Pdisk_Disk_Write : callable Try.prog F_Pdisk_Disk_Write = true := by kernel_rfl
theorem c_Pdisk_Disk_Flush : trF Try.prog Try.f39 = some a_Pdisk_Disk_Flush := by kernel_rfl
theorem g_Pdisk_Disk_Flush : Try.prog.funcs[39]? = some Try.f39 := by kernel_rfl
theorem i_Pdisk_Disk_Flush {args : List AV} {A : Heap} {Ko : AOut → Heap → Prop} (hn : args.length ≤ 11)
    (h : ∀ R : APost, (∀ e env A, fpost a_Pdisk_Disk_Flush.res Ko e env A → R e env A) → X Try.prog R a_Pdisk_Disk_Flush.body .done (env0 args) A) : SimX Try.prog F_Pdisk_Disk_Flush args A Ko :=
  X_intro g_Pdisk_Disk_Flush c_Pdisk_Disk_Flush (by rw [Try.ntmps39]; exact hn) h
theorem v_Pdisk_Disk_Flush {args : List AV} {v : AV} (hn : args.length ≤ 11) (h : X Try.prog (fin a_Pdisk_Disk_Flush.res v) a_Pdisk_Disk_Flush.body .done (env0 args) H0) : Gives Try.prog F_Pdisk_Disk_Flush args v :=
  Gives_intro g_Pdisk_Disk_Flush c_Pdisk_Disk_Flush (by rw [Try.ntmps39]; exact hn) h
theorem e_Pdisk_Disk_Flush {args : List AV} {Q : AOut → Prop} (hn : args.length ≤ 11) (h : X Try.prog (finE a_Pdisk_Disk_Flush.res Q) a_Pdisk_Disk_Flush.body .done (env0 args) H0) : Fins Try.prog F_Pdisk_Disk_Flush args Q :=
  Fins_intro g_Pdisk_Disk_Flush c_Pdisk_Disk_Flush (by rw [Try.ntmps39]; exact hn) h
theorem j_Pdisk_Disk_Flush {args : List AV} {A : Heap} {K Kp : AV → Heap → Prop} (hn : args.length ≤ 11) (h : X Try.prog (inl a_Pdisk_Disk_Flush.res K Kp) a_Pdisk_Disk_Flush.body .done (env0 args) A) : SimX Try.prog F_Pdisk_Disk_Flush args A (outK K Kp) :=
  X_inl g_Pdisk_Disk_Flush c_Pdisk_Disk_Flush (by rw [Try.ntmps39]; exact hn) h
theorem d_Pdisk_Disk_Flush {args : List AV} {A : Heap} {Ko : AOut → Heap → Prop} (hn : args.length ≤ 11) (hrf : AVL.Func.hasRF Try.f39 = false)
    (h : ∀ R : APost, (∀ e env A, fpost a_Pdisk_Disk_Flush.res Ko e env A → R e env A) → X Try.prog R a_Pdisk_Disk_Flush.body .done (env0 args) A) : SimD Try.prog F_Pdisk_Disk_Flush args A Ko :=
  X_introD g_Pdisk_Disk_Flush c_Pdisk_Disk_Flush (by rw [Try.ntmps39]; exact hn) hrf h
@[simp] theorem k_Pdisk_Disk_Flush : callable Try.prog F_Pdisk_Disk_Flush = true := by kernel_rfl
theorem c_Pdisk_Disk_Flush_1 : trF Try.prog Try.f78 = some a_Pdisk_Disk_Flush_1 := by kernel_rfl
theorem g_Pdisk_Disk_Flush_1 : Try.prog.funcs[78]? = some Try.f78 := by kernel_rfl
theorem i_Pdisk_Disk_Flush_1 {args : List AV} {A : Heap} {Ko : AOut → Heap → Prop} (hn : args.length ≤ 3)
    (h : ∀ R : APost, (∀ e env A, fpost a_Pdisk_Disk_Flush_1.res Ko e env A → R e env A) → X Try.prog R a_Pdisk_Disk_Flush_1.body .done (env0 args) A) : SimX Try.prog F_Pdisk_Disk_Flush_1 args A Ko :=
  X_intro g_Pdisk_Disk_Flush_1 c_Pdisk_Disk_Flush_1 (by rw [Try.ntmps78]; exact hn) h
theorem v_Pdisk_Disk_Flush_1 {args : List AV} {v : AV} (hn : args.length ≤ 3) (h : X Try.prog (fin a_Pdisk_Disk_Flush_1.res v) a_Pdisk_Disk_Flush_1.body .done (env0 args) H0) : Gives Try.prog F_Pdisk_Disk_Flush_1 args v :=
  Gives_intro g_Pdisk_Disk_Flush_1 c_Pdisk_Disk_Flush_1 (by rw [Try.ntmps78]; exact hn) h
theorem e_Pdisk_Disk_Flush_1 {args : List AV} {Q : AOut → Prop} (hn : args.length ≤ 3) (h : X Try.prog (finE a_Pdisk_Disk_Flush_1.res Q) a_Pdisk_Disk_Flush_1.body .done (env0 args) H0) : Fins Try.prog F_Pdisk_Disk_Flush_1 args Q :=
  Fins_intro g_Pdisk_Disk_Flush_1 c_Pdisk_Disk_Flush_1 (by rw [Try.ntmps78]; exact hn) h
theorem j_Pdisk_Disk_Flush_1 {args : List AV} {A : Heap} {K Kp : AV → Heap → Prop} (hn : args.length ≤ 3) (h : X Try.prog (inl a_Pdisk_Disk_Flush_1.res K Kp) a_Pdisk_Disk_Flush_1.body .done (env0 args) A) : SimX Try.prog F_Pdisk_Disk_Flush_1 args A (outK K Kp) :=
  X_inl g_Pdisk_Disk_Flush_1 c_Pdisk_Disk_Flush_1 (by rw [Try.ntmps78]; exact hn) h
theorem d_Pdisk_Disk_Flush_1 {args : List AV} {A : Heap} {Ko : AOut → Heap → Prop} (hn : args.length ≤ 3) (hrf : AVL.Func.hasRF Try.f78 = false)
    (h : ∀ R : APost, (∀ e env A, fpost a_Pdisk_Disk_Flush_1.res Ko e env A → R e env A) → X Try.prog R a_Pdisk_Disk_Flush_1.body .done (env0 args) A) : SimD Try.prog F_Pdisk_Disk_Flush_1 args A Ko :=
  X_introD g_Pdisk_Disk_Flush_1 c_Pdisk_Disk_Flush_1 (by rw [Try.ntmps78]; exact hn) hrf h
@[simp] theorem k_Pdisk_Disk_Flush_1 : callable Try.prog F_Pdisk_Disk_Flush_1 = true := by kernel_rfl
theorem c_Pdisk_Disk_Fuse : trF Try.prog Try.f40 = some a_Pdisk_Disk_Fuse := by kernel_rfl
theorem g_Pdisk_Disk_Fuse : Try.prog.funcs[40]? = some Try.f40 := by kernel_rfl
theorem i_Pdisk_Disk_Fuse {args : List AV} {A : Heap} {Ko : AOut → Heap → Prop} (hn : args.length ≤ 9)
    (h : ∀ R : APost, (∀ e env A, fpost a_Pdisk_Disk_Fuse.res Ko e env A → R e env A) → X Try.prog R a_Pdisk_Disk_Fuse.body .done (env0 args) A) : SimX Try.prog F_Pdisk_Disk_Fuse args A Ko :=
  X_intro g_Pdisk_Disk_Fuse c_Pdisk_Disk_Fuse (by rw [Try.ntmps40]; exact hn) h
theorem v_Pdisk_Disk_Fuse {args : List AV} {v : AV} (hn : args.length ≤ 9) (h : X Try.prog (fin a_Pdisk_Disk_Fuse.res v) a_Pdisk_Disk_Fuse.body .done (env0 args) H0) : Gives Try.prog F_Pdisk_Disk_Fuse args v :=
  Gives_intro g_Pdisk_Disk_Fuse c_Pdisk_Disk_Fuse (by rw [Try.ntmps40]; exact hn) h
theorem e_Pdisk_Disk_Fuse {args : List AV} {Q : AOut → Prop} (hn : args.length ≤ 9) (h : X Try.prog (finE a_Pdisk_Disk_Fuse.res Q) a_Pdisk_Disk_Fuse.body .done (env0 args) H0) : Fins Try.prog F_Pdisk_Disk_Fuse args Q :=
  Fins_intro g_Pdisk_Disk_Fuse c_Pdisk_Disk_Fuse (by rw [Try.ntmps40]; exact hn) h
theorem j_Pdisk_Disk_Fuse {args : List AV} {A : Heap} {K Kp : AV → Heap → Prop} (hn : args.length ≤ 9) (h : X Try.prog (inl a_Pdisk_Disk_Fuse.res K Kp) a_Pdisk_Disk_Fuse.body .done (env0 args) A) : SimX Try.prog F_Pdisk_Disk_Fuse args A (outK K Kp) :=
  X_inl g_Pdisk_Disk_Fuse c_Pdisk_Disk_Fuse (by rw [Try.ntmps40]; exact hn) h
theorem d_Pdisk_Disk_Fuse {args : List AV} {A : Heap} {Ko : AOut → Heap → Prop} (hn : args.length ≤ 9) (hrf : AVL.Func.hasRF Try.f40 = false)
    (h : ∀ R : APost, (∀ e env A, fpost a_Pdisk_Disk_Fuse.res Ko e env A → R e env A) → X Try.prog R a_Pdisk_Disk_Fuse.body .done (env0 args) A) : SimD Try.prog F_Pdisk_Disk_Fuse args A Ko :=
  X_introD g_Pdisk_Disk_Fuse c_Pdisk_Disk_Fuse (by rw [Try.ntmps40]; exact hn) hrf h
@[simp] theorem k_Pdisk_Disk_Fuse : callable Try.prog F_Pdisk_Disk_Fuse = true := by kernel_rfl
theorem c_Pdisk_Disk_Crash : trF Try.prog Try.f42 = some a_Pdisk_Disk_Crash := by kernel_rfl
theorem g_Pdisk_Disk_Crash : Try.prog.funcs[42]? = some Try.f42 := by kernel_rfl
theorem i_Pdisk_Disk_Crash {args : List AV} {A : Heap} {Ko : AOut → Heap → Prop} (hn : args.length ≤ 14)
    (h : ∀ R : APost, (∀ e env A, fpost a_Pdisk_Disk_Crash.res Ko e env A → R e env A) → X Try.prog R a_Pdisk_Disk_Crash.body .done (env0 args) A) : SimX Try.prog F_Pdisk_Disk_Crash args A Ko :=
  X_intro g_Pdisk_Disk_Crash c_Pdisk_Disk_Crash (by rw [Try.ntmps42]; exact hn) h
theorem v_Pdisk_Disk_Crash {args : List AV} {v : AV} (hn : args.length ≤ 14) (h : X Try.prog (fin a_Pdisk_Disk_Crash.res v) a_Pdisk_Disk_Crash.body .done (env0 args) H0) : Gives Try.prog F_Pdisk_Disk_Crash args v :=
  Gives_intro g_Pdisk_Disk_Crash c_Pdisk_Disk_Crash (by rw [Try.ntmps42]; exact hn) h
theorem e_Pdisk_Disk_Crash {args : List AV} {Q : AOut → Prop} (hn : args.length ≤ 14) (h : X Try.prog (finE a_Pdisk_Disk_Crash.res Q) a_Pdisk_Disk_Crash.body .done (env0 args) H0) : Fins Try.prog F_Pdisk_Disk_Crash args Q :=
  Fins_intro g_Pdisk_Disk_Crash c_Pdisk_Disk_Crash (by rw [Try.ntmps42]; exact hn) h
theorem j_Pdisk_Disk_Crash {args : List AV} {A : Heap} {K Kp : AV → Heap → Prop} (hn : args.length ≤ 14) (h : X Try.prog (inl a_Pdisk_Disk_Crash.res K Kp) a_Pdisk_Disk_Crash.body .done (env0 args) A) : SimX Try.prog F_Pdisk_Disk_Crash args A (outK K Kp) :=
  X_inl g_Pdisk_Disk_Crash c_Pdisk_Disk_Crash (by rw [Try.ntmps42]; exact hn) h
theorem d_Pdisk_Disk_Crash {args : List AV} {A : Heap} {Ko : AOut → Heap → Prop} (hn : args.length ≤ 14) (hrf : AVL.Func.hasRF Try.f42 = false)
    (h : ∀ R : APost, (∀ e env A, fpost a_Pdisk_Disk_Crash.res Ko e env A → R e env A) → X Try.prog R a_Pdisk_Disk_Crash.body .done (env0 args) A) : SimD Try.prog F_Pdisk_Disk_Crash args A Ko :=
  X_introD g_Pdisk_Disk_Crash c_Pdisk_Disk_Crash (by rw [Try.ntmps42]; exact hn) hrf h
@[simp] theorem k_Pdisk_Disk_Crash : callable Try.prog F_Pdisk_Disk_Crash = true := by kernel_rfl
theorem c_Pdisk_Disk_Crash_1 : trF Try.prog Try.f79 = some a_Pdisk_Disk_Crash_1 := by kernel_rfl
theorem g_Pdisk_Disk_Crash_1 : Try.prog.funcs[79]? = some Try.f79 := by kernel_rfl
theorem i_Pdisk_Disk_Crash_1 {args : List AV} {A : Heap} {Ko : AOut → Heap → Prop} (hn : args.length ≤ 14)
    (h : ∀ R : APost, (∀ e env A, fpost a_Pdisk_Disk_Crash_1.res Ko e env A → R e env A) → X Try.prog R a_Pdisk_Disk_Crash_1.body .done (env0 args) A) : SimX Try.prog F_Pdisk_Disk_Crash_1 args A Ko :=
  X_intro g_Pdisk_Disk_Crash_1 c_Pdisk_Disk_Crash_1 (by rw [Try.ntmps79]; exact hn) h
theorem v_Pdisk_Disk_Crash_1 {args : List AV} {v : AV} (hn : args.length ≤ 14) (h : X Try.prog (fin a_Pdisk_Disk_Crash_1.res v) a_Pdisk_Disk_Crash_1.body .done (env0 args) H0) : Gives Try.prog F_Pdisk_Disk_Crash_1 args v :=
  Gives_intro g_Pdisk_Disk_Crash_1 c_Pdisk_Disk_Crash_1 (by rw [Try.ntmps79]; exact hn) h
theorem e_Pdisk_Disk_Crash_1 {args : List AV} {Q : AOut → Prop} (hn : args.length ≤ 14) (h : X Try.prog (finE a_Pdisk_Disk_Crash_1.res Q) a_Pdisk_Disk_Crash_1.body .done (env0 args) H0) : Fins Try.prog F_Pdisk_Disk_Crash_1 args Q :=
  Fins_intro g_Pdisk_Disk_Crash_1 c_Pdisk_Disk_Crash_1 (by rw [Try.ntmps79]; exact hn) h
theorem j_Pdisk_Disk_Crash_1 {args : List AV} {A : Heap} {K Kp : AV → Heap → Prop} (hn : args.length ≤ 14) (h : X Try.prog (inl a_Pdisk_Disk_Crash_1.res K Kp) a_Pdisk_Disk_Crash_1.body .done (env0 args) A) : SimX Try.prog F_Pdisk_Disk_Crash_1 args A (outK K Kp) :=
  X_inl g_Pdisk_Disk_Crash_1 c_Pdisk_Disk_Crash_1 (by rw [Try.ntmps79]; exact hn) h
theorem d_Pdisk_Disk_Crash_1 {args : List AV} {A : Heap} {Ko : AOut → Heap → Prop} (hn : args.length ≤ 14) (hrf : AVL.Func.hasRF Try.f79 = false)
    (h : ∀ R : APost, (∀ e env A, fpost a_Pdisk_Disk_Crash_1.res Ko e env A → R e env A) → X Try.prog R a_Pdisk_Disk_Crash_1.body .done (env0 args) A) : SimD Try.prog F_Pdisk_Disk_Crash_1 args A Ko :=
  X_introD g_Pdisk_Disk_Crash_1 c_Pdisk_Disk_Crash_1 (by rw [Try.ntmps79]; exact hn) hrf h
@[simp] theorem k_Pdisk_Disk_Crash_1 : callable Try.prog F_Pdisk_Disk_Crash_1 = true := by kernel_rfl
theorem c_Pdisk_Disk_Waits : trF Try.prog Try.f74 = some a_Pdisk_Disk_Waits := by kernel_rfl
theorem g_Pdisk_Disk_Waits : Try.prog.funcs[74]? = some Try.f74 := by kernel_rfl
theorem i_Pdisk_Disk_Waits {args : List AV} {A : Heap} {Ko : AOut → Heap → Prop} (hn : args.length ≤ 8)
    (h : ∀ R : APost, (∀ e env A, fpost a_Pdisk_Disk_Waits.res Ko e env A → R e env A) → X Try.prog R a_Pdisk_Disk_Waits.body .done (env0 args) A) : SimX Try.prog F_Pdisk_Disk_Waits args A Ko :=
  X_intro g_Pdisk_Disk_Waits c_Pdisk_Disk_Waits (by rw [Try.ntmps74]; exact hn) h
theorem v_Pdisk_Disk_Waits {args : List AV} {v : AV} (hn : args.length ≤ 8) (h : X Try.prog (fin a_Pdisk_Disk_Waits.res v) a_Pdisk_Disk_Waits.body .done (env0 args) H0) : Gives Try.prog F_Pdisk_Disk_Waits args v :=
  Gives_intro g_Pdisk_Disk_Waits c_Pdisk_Disk_Waits (by rw [Try.ntmps74]; exact hn) h
theorem e_Pdisk_Disk_Waits {args : List AV} {Q : AOut → Prop} (hn : args.length ≤ 8) (h : X Try.prog (finE a_Pdisk_Disk_Waits.res Q) a_Pdisk_Disk_Waits.body .done (env0 args) H0) : Fins Try.prog F_Pdisk_Disk_Waits args Q :=
  Fins_intro g_Pdisk_Disk_Waits c_Pdisk_Disk_Waits (by rw [Try.ntmps74]; exact hn) h
theorem j_Pdisk_Disk_Waits {args : List AV} {A : Heap} {K Kp : AV → Heap → Prop} (hn : args.length ≤ 8) (h : X Try.prog (inl a_Pdisk_Disk_Waits.res K Kp) a_Pdisk_Disk_Waits.body .done (env0 args) A) : SimX Try.prog F_Pdisk_Disk_Waits args A (outK K Kp) :=
  X_inl g_Pdisk_Disk_Waits c_Pdisk_Disk_Waits (by rw [Try.ntmps74]; exact hn) h
theorem d_Pdisk_Disk_Waits {args : List AV} {A : Heap} {Ko : AOut → Heap → Prop} (hn : args.length ≤ 8) (hrf : AVL.Func.hasRF Try.f74 = false)
    (h : ∀ R : APost, (∀ e env A, fpost a_Pdisk_Disk_Waits.res Ko e env A → R e env A) → X Try.prog R a_Pdisk_Disk_Waits.body .done (env0 args) A) : SimD Try.prog F_Pdisk_Disk_Waits args A Ko :=
  X_introD g_Pdisk_Disk_Waits c_Pdisk_Disk_Waits (by rw [Try.ntmps74]; exact hn) hrf h
@[simp] theorem k_Pdisk_Disk_Waits : callable Try.prog F_Pdisk_Disk_Waits = true := by kernel_rfl
theorem c_Pdisk_Disk_inside : trF Try.prog Try.f75 = some a_Pdisk_Disk_inside := by kernel_rfl
theorem g_Pdisk_Disk_inside : Try.prog.funcs[75]? = some Try.f75 := by kernel_rfl
theorem i_Pdisk_Disk_inside {args : List AV} {A : Heap} {Ko : AOut → Heap → Prop} (hn : args.length ≤ 16)
    (h : ∀ R : APost, (∀ e env A, fpost a_Pdisk_Disk_inside.res Ko e env A → R e env A) → X Try.prog R a_Pdisk_Disk_inside.body .done (env0 args) A) : SimX Try.prog F_Pdisk_Disk_inside args A Ko :=
  X_intro g_Pdisk_Disk_inside c_Pdisk_Disk_inside (by rw [Try.ntmps75]; exact hn) h
theorem v_Pdisk_Disk_inside {args : List AV} {v : AV} (hn : args.length ≤ 16) (h : X Try.prog (fin a_Pdisk_Disk_inside.res v) a_Pdisk_Disk_inside.body .done (env0 args) H0) : Gives Try.prog F_Pdisk_Disk_inside args v :=
  Gives_intro g_Pdisk_Disk_inside c_Pdisk_Disk_inside (by rw [Try.ntmps75]; exact hn) h
theorem e_Pdisk_Disk_inside {args : List AV} {Q : AOut → Prop} (hn : args.length ≤ 16) (h : X Try.prog (finE a_Pdisk_Disk_inside.res Q) a_Pdisk_Disk_inside.body .done (env0 args) H0) : Fins Try.prog F_Pdisk_Disk_inside args Q :=
  Fins_intro g_Pdisk_Disk_inside c_Pdisk_Disk_inside (by rw [Try.ntmps75]; exact hn) h
theorem j_Pdisk_Disk_inside {args : List AV} {A : Heap} {K Kp : AV → Heap → Prop} (hn : args.length ≤ 16) (h : X Try.prog (inl a_Pdisk_Disk_inside.res K Kp) a_Pdisk_Disk_inside.body .done (env0 args) A) : SimX Try.prog F_Pdisk_Disk_inside args A (outK K Kp) :=
  X_inl g_Pdisk_Disk_inside c_Pdisk_Disk_inside (by rw [Try.ntmps75]; exact hn) h
theorem d_Pdisk_Disk_inside {args : List AV} {A : Heap} {Ko : AOut → Heap → Prop} (hn : args.length ≤ 16) (hrf : AVL.Func.hasRF Try.f75 = false)
    (h : ∀ R : APost, (∀ e env A, fpost a_Pdisk_Disk_inside.res Ko e env A → R e env A) → X Try.prog R a_Pdisk_Disk_inside.body .done (env0 args) A) : SimD Try.prog F_Pdisk_Disk_inside args A Ko :=
  X_introD g_Pdisk_Disk_inside c_Pdisk_Disk_inside (by rw [Try.ntmps75]; exact hn) hrf h
@[simp] theorem k_Pdisk_Disk_inside : callable Try.prog F_Pdisk_Disk_inside = true := by kernel_rfl
theorem c_Pdisk_Disk_step : trF Try.prog Try.f76 = some a_Pdisk_Disk_step := by kernel_rfl
theorem g_Pdisk_Disk_step : Try.prog.funcs[76]? = some Try.f76 := by kernel_rfl
theorem i_Pdisk_Disk_step {args : List AV} {A : Heap} {Ko : AOut → Heap → Prop} (hn : args.length ≤ 36)
    (h : ∀ R : APost, (∀ e env A, fpost a_Pdisk_Disk_step.res Ko e env A → R e env A) → X Try.prog R a_Pdisk_Disk_step.body .done (env0 args) A) : SimX Try.prog F_Pdisk_Disk_step args A Ko :=
  X_intro g_Pdisk_Disk_step c_Pdisk_Disk_step (by rw [Try.ntmps76]; exact hn) h
theorem v_Pdisk_Disk_step {args : List AV} {v : AV} (hn : args.length ≤ 36) (h : X Try.prog (fin a_Pdisk_Disk_step.res v) a_Pdisk_Disk_step.body .done (env0 args) H0) : Gives Try.prog F_Pdisk_Disk_step args v :=
  Gives_intro g_Pdisk_Disk_step c_Pdisk_Disk_step (by rw [Try.ntmps76]; exact hn) h
theorem e_Pdisk_Disk_step {args : List AV} {Q : AOut → Prop} (hn : args.length ≤ 36) (h : X Try.prog (finE a_Pdisk_Disk_step.res Q) a_Pdisk_Disk_step.body .done (env0 args) H0) : Fins Try.prog F_Pdisk_Disk_step args Q :=
  Fins_intro g_Pdisk_Disk_step c_Pdisk_Disk_step (by rw [Try.ntmps76]; exact hn) h
theorem j_Pdisk_Disk_step {args : List AV} {A : Heap} {K Kp : AV → Heap → Prop} (hn : args.length ≤ 36) (h : X Try.prog (inl a_Pdisk_Disk_step.res K Kp) a_Pdisk_Disk_step.body .done (env0 args) A) : SimX Try.prog F_Pdisk_Disk_step args A (outK K Kp) :=
  X_inl g_Pdisk_Disk_step c_Pdisk_Disk_step (by rw [Try.ntmps76]; exact hn) h
theorem d_Pdisk_Disk_step {args : List AV} {A : Heap} {Ko : AOut → Heap → Prop} (hn : args.length ≤ 36) (hrf : AVL.Func.hasRF Try.f76 = false)
    (h : ∀ R : APost, (∀ e env A, fpost a_Pdisk_Disk_step.res Ko e env A → R e env A) → X Try.prog R a_Pdisk_Disk_step.body .done (env0 args) A) : SimD Try.prog F_Pdisk_Disk_step args A Ko :=
  X_introD g_Pdisk_Disk_step c_Pdisk_Disk_step (by rw [Try.ntmps76]; exact hn) hrf h
@[simp] theorem k_Pdisk_Disk_step : callable Try.prog F_Pdisk_Disk_step = true := by kernel_rfl
theorem c_Pdisk_Disk_settle : trF Try.prog Try.f77 = some a_Pdisk_Disk_settle := by kernel_rfl
theorem g_Pdisk_Disk_settle : Try.prog.funcs[77]? = some Try.f77 := by kernel_rfl
theorem i_Pdisk_Disk_settle {args : List AV} {A : Heap} {Ko : AOut → Heap → Prop} (hn : args.length ≤ 41)
    (h : ∀ R : APost, (∀ e env A, fpost a_Pdisk_Disk_settle.res Ko e env A → R e env A) → X Try.prog R a_Pdisk_Disk_settle.body .done (env0 args) A) : SimX Try.prog F_Pdisk_Disk_settle args A Ko :=
  X_intro g_Pdisk_Disk_settle c_Pdisk_Disk_settle (by rw [Try.ntmps77]; exact hn) h
theorem v_Pdisk_Disk_settle {args : List AV} {v : AV} (hn : args.length ≤ 41) (h : X Try.prog (fin a_Pdisk_Disk_settle.res v) a_Pdisk_Disk_settle.body .done (env0 args) H0) : Gives Try.prog F_Pdisk_Disk_settle args v :=
  Gives_intro g_Pdisk_Disk_settle c_Pdisk_Disk_settle (by rw [Try.ntmps77]; exact hn) h
theorem e_Pdisk_Disk_settle {args : List AV} {Q : AOut → Prop} (hn : args.length ≤ 41) (h : X Try.prog (finE a_Pdisk_Disk_settle.res Q) a_Pdisk_Disk_settle.body .done (env0 args) H0) : Fins Try.prog F_Pdisk_Disk_settle args Q :=
  Fins_intro g_Pdisk_Disk_settle c_Pdisk_Disk_settle (by rw [Try.ntmps77]; exact hn) h
theorem j_Pdisk_Disk_settle {args : List AV} {A : Heap} {K Kp : AV → Heap → Prop} (hn : args.length ≤ 41) (h : X Try.prog (inl a_Pdisk_Disk_settle.res K Kp) a_Pdisk_Disk_settle.body .done (env0 args) A) : SimX Try.prog F_Pdisk_Disk_settle args A (outK K Kp) :=
  X_inl g_Pdisk_Disk_settle c_Pdisk_Disk_settle (by rw [Try.ntmps77]; exact hn) h
theorem d_Pdisk_Disk_settle {args : List AV} {A : Heap} {Ko : AOut → Heap → Prop} (hn : args.length ≤ 41) (hrf : AVL.Func.hasRF Try.f77 = false)
    (h : ∀ R : APost, (∀ e env A, fpost a_Pdisk_Disk_settle.res Ko e env A → R e env A) → X Try.prog R a_Pdisk_Disk_settle.body .done (env0 args) A) : SimD Try.prog F_Pdisk_Disk_settle args A Ko :=
  X_introD g_Pdisk_Disk_settle c_Pdisk_Disk_settle (by rw [Try.ntmps77]; exact hn) hrf h
@[simp] theorem k_Pdisk_Disk_settle : callable Try.prog F_Pdisk_Disk_settle = true := by kernel_rfl
end Go.Proofs.Ytilgdnbijkcboaa

/- Sectors that last, writes that wait: a disk, plainly; and how it lies in memory. -/
namespace Go.Proofs.Ytilgdnbijkcboaa
open Go AVL
attribute [-simp] AV.isAgg aappI aapp alen shp good comps
set_option linter.unusedVariables false
set_option linter.unusedSimpArgs false
set_option maxRecDepth 8000

structure Dsk where
  last : List (List Nat)
  wait : List (Nat × List Nat)
  steps : Nat
  fuse : Int
  down : Bool
def z256 : List Nat := List.replicate 256 0
def Dsk.fresh (n : Nat) : Dsk := ⟨List.replicate n z256, [], 0, -1, false⟩
/-- What was written there last, of those that wait. -/
def look (w : List (Nat × List Nat)) (a : Nat) (s : List Nat) : List Nat := w.foldl (fun s p => if p.1 = a then p.2 else s) s
def lookO (w : List (Nat × List Nat)) (a : Nat) : Option (List Nat) := w.foldl (fun o p => if p.1 = a then some p.2 else o) none
theorem look_aux (a : Nat) : ∀ (w : List (Nat × List Nat)) (o : Option (List Nat)) (s : List Nat), w.foldl (fun s p => if p.1 = a then p.2 else s) (o.getD s) = (w.foldl (fun o p => if p.1 = a then some p.2 else o) o).getD s
  | [], o, s => rfl
  | p :: w, o, s => by
    simp only [List.foldl_cons]
    rw [← look_aux a w]
    by_cases h : p.1 = a <;> simp [h]
theorem look_eq (w : List (Nat × List Nat)) (a : Nat) (s : List Nat) : look w a s = (lookO w a).getD s := look_aux a w none s
@[simp] theorem lookO_nil (a : Nat) : lookO [] a = none := rfl
theorem lookO_snoc (w : List (Nat × List Nat)) (p : Nat × List Nat) (a : Nat) : lookO (w ++ [p]) a = if p.1 = a then some p.2 else lookO w a := by simp [lookO]
theorem look_snoc (w : List (Nat × List Nat)) (p : Nat × List Nat) (a : Nat) (s : List Nat) : look (w ++ [p]) a s = if p.1 = a then p.2 else look w a s := by simp [look]
theorem look_take {w : List (Nat × List Nat)} {i : Nat} (h : i < w.length) (a : Nat) (s : List Nat) : look (w.take (i + 1)) a s = if w[i].1 = a then w[i].2 else look (w.take i) a s := by
  rw [List.take_succ_eq_append_getElem h, look_snoc]
theorem lookO_take {w : List (Nat × List Nat)} {i : Nat} (h : i < w.length) (a : Nat) : lookO (w.take (i + 1)) a = if w[i].1 = a then some w[i].2 else lookO (w.take i) a := by
  rw [List.take_succ_eq_append_getElem h, lookO_snoc]
/-- The writes that are kept, of the first i, have lasted. -/
def stl (keep : Nat → Bool) (w : List (Nat × List Nat)) (L : List (List Nat)) : Nat → List (List Nat)
  | 0 => L
  | i + 1 => match w[i]? with
    | some p => if keep i then (stl keep w L i).set p.1 p.2 else stl keep w L i
    | none => stl keep w L i
def stn (keep : Nat → Bool) : Nat → Nat
  | 0 => 0
  | i + 1 => if keep i then stn keep i + 1 else stn keep i
theorem stn_le (keep : Nat → Bool) : ∀ i, stn keep i ≤ i
  | 0 => Nat.le_refl _
  | i + 1 => by have := stn_le keep i; simp only [stn]; split <;> omega
@[simp] theorem stl_length (keep : Nat → Bool) (w : List (Nat × List Nat)) (L : List (List Nat)) : ∀ i, (stl keep w L i).length = L.length
  | 0 => rfl
  | i + 1 => by
    simp only [stl]
    split
    · split
      · rw [List.length_set, stl_length]
      · exact stl_length keep w L i
    · exact stl_length keep w L i
theorem stl_succ {keep : Nat → Bool} {w : List (Nat × List Nat)} {L : List (List Nat)} {i : Nat} (h : i < w.length) :
    stl keep w L (i + 1) = if keep i then (stl keep w L i).set w[i].1 w[i].2 else stl keep w L i := by
  simp only [stl, List.getElem?_eq_getElem h]
def keeps (keep : List Bool) (i : Nat) : Bool := keep.getD i false
def Dsk.step (D : Dsk) : Dsk := if D.down = true ∨ D.fuse = 0 then { D with down := true } else { D with fuse := if D.fuse > 0 then D.fuse - 1 else D.fuse, steps := D.steps + 1 }
def Dsk.ok (D : Dsk) : Bool := !(D.down || decide (D.fuse = 0))
def Dsk.settle (D : Dsk) (keep : Nat → Bool) : Dsk := { D with last := stl keep D.wait D.last D.wait.length, wait := [] }
def Dsk.setFuse (D : Dsk) (n : Int) : Dsk := { D with fuse := if n < 0 then -1 else n }
def Dsk.write (D : Dsk) (a : Nat) (s : List Nat) : Dsk := if D.ok then { D.step with wait := D.wait ++ [(a, s)] } else D.step
def Dsk.flush (D : Dsk) : Dsk := if D.ok then D.step.settle (fun _ => true) else D.step
def Dsk.crash (D : Dsk) (keep : List Bool) : Dsk := { D.settle (keeps keep) with fuse := -1, down := false }
def Dsk.val (D : Dsk) (a : Nat) : List Nat := look D.wait a (D.last.getD a [])
def Dsk.inside (D : Dsk) (a : Int) : Bool := decide (0 ≤ a) && decide (a < D.last.length)
/-- Bytes of a sector. -/
def Sec (s : List Nat) : Prop := s.length = 256 ∧ ∀ x ∈ s, x < 256
theorem sec_z : Sec z256 := ⟨by simp [z256], fun x hx => by rw [List.eq_of_mem_replicate hx]; decide⟩
structure Dsk.Wf (D : Dsk) : Prop where
  last : ∀ s ∈ D.last, Sec s
  wait : ∀ p ∈ D.wait, p.1 < D.last.length ∧ Sec p.2
  size : D.last.length ≤ 4096
  fuse : D.fuse < 9223372036854775808
theorem Dsk.fresh_wf {n : Nat} (h : n ≤ 4096) : (Dsk.fresh n).Wf := ⟨fun s hs => by rw [List.eq_of_mem_replicate hs]; exact sec_z, fun p hp => (by cases hp), by simpa [Dsk.fresh] using h, by show (-1 : Int) < _; decide⟩
theorem Dsk.step_last (D : Dsk) : D.step.last = D.last := by unfold Dsk.step; split <;> rfl
theorem Dsk.step_wait (D : Dsk) : D.step.wait = D.wait := by unfold Dsk.step; split <;> rfl
theorem Dsk.step_wf {D : Dsk} (h : D.Wf) : D.step.Wf := ⟨by rw [D.step_last]; exact h.last, by rw [D.step_last, D.step_wait]; exact h.wait, by rw [D.step_last]; exact h.size, by
  have := h.fuse
  unfold Dsk.step
  split
  · exact this
  · show (if D.fuse > 0 then D.fuse - 1 else D.fuse) < _
    split <;> omega⟩
theorem sec_set {L : List (List Nat)} (h : ∀ s ∈ L, Sec s) {a : Nat} {s : List Nat} (hs : Sec s) : ∀ x ∈ L.set a s, Sec x := fun x hx => by
  rcases List.mem_or_eq_of_mem_set hx with h1 | h1
  · exact h x h1
  · exact h1 ▸ hs
theorem stl_sec {keep : Nat → Bool} {w : List (Nat × List Nat)} {L : List (List Nat)} (hw : ∀ p ∈ w, Sec p.2) (hL : ∀ s ∈ L, Sec s) : ∀ i, ∀ s ∈ stl keep w L i, Sec s
  | 0 => hL
  | i + 1 => by
    simp only [stl]
    split
    · rename_i p hp
      split
      · exact sec_set (stl_sec hw hL i) (hw p (List.mem_of_getElem? hp))
      · exact stl_sec hw hL i
    · exact stl_sec hw hL i
theorem Dsk.settle_wf {D : Dsk} (h : D.Wf) (keep : Nat → Bool) : (D.settle keep).Wf :=
  ⟨stl_sec (fun p hp => (h.wait p hp).2) h.last _, fun p hp => (by cases hp), by simpa [Dsk.settle] using h.size, h.fuse⟩
theorem Dsk.write_wf {D : Dsk} (h : D.Wf) {a : Nat} {s : List Nat} (ha : a < D.last.length) (hs : Sec s) : (D.write a s).Wf := by
  unfold Dsk.write
  split
  · refine ⟨(Dsk.step_wf h).last, fun p hp => ?_, (Dsk.step_wf h).size, (Dsk.step_wf h).fuse⟩
    rcases List.mem_append.1 hp with h1 | h1
    · have := h.wait p h1
      exact ⟨by show p.1 < D.step.last.length; rw [D.step_last]; exact this.1, this.2⟩
    · simp only [List.mem_singleton] at h1; subst h1
      exact ⟨by show a < D.step.last.length; rw [D.step_last]; exact ha, hs⟩
  · exact Dsk.step_wf h
theorem Dsk.flush_wf {D : Dsk} (h : D.Wf) : D.flush.Wf := by
  unfold Dsk.flush
  split
  · exact Dsk.settle_wf (Dsk.step_wf h) _
  · exact Dsk.step_wf h
theorem Dsk.crash_wf {D : Dsk} (h : D.Wf) (keep : List Bool) : (D.crash keep).Wf :=
  have := Dsk.settle_wf h (keeps keep)
  ⟨this.last, this.wait, this.size, by show (-1 : Int) < _; decide⟩
theorem Dsk.setFuse_wf {D : Dsk} (h : D.Wf) {n : Int} (hn : n < 9223372036854775808) : (D.setFuse n).Wf := ⟨h.last, h.wait, h.size, by
  show (if n < 0 then -1 else n) < _
  split <;> omega⟩
theorem look_sec {w : List (Nat × List Nat)} {a : Nat} {s : List Nat} (hw : ∀ p ∈ w, Sec p.2) (hs : Sec s) : Sec (look w a s) := by
  rw [look_eq]
  suffices h : ∀ (w : List (Nat × List Nat)) (o : Option (List Nat)), (∀ p ∈ w, Sec p.2) → (∀ t, o = some t → Sec t) → ∀ t, w.foldl (fun o p => if p.1 = a then some p.2 else o) o = some t → Sec t by
    cases e : lookO w a with
    | none => exact hs
    | some t => exact h w none hw (fun t h => by cases h) t e
  intro w
  induction w with
  | nil => intro o _ h t ht; exact h t ht
  | cons p w ih =>
    intro o hw ho t ht
    simp only [List.foldl_cons] at ht
    refine ih _ (fun q hq => hw q (by simp [hq])) ?_ t ht
    intro u hu
    split at hu
    · injection hu with hu; subst hu; exact hw p (by simp)
    · exact ho u hu
theorem Dsk.val_sec {D : Dsk} (h : D.Wf) {a : Nat} (ha : a < D.last.length) : Sec (D.val a) :=
  look_sec (fun p hp => (h.wait p hp).2) (h.last _ (by rw [List.getD_eq_getElem?_getD, List.getElem?_eq_getElem ha]; exact List.getElem_mem ha))

/-! in memory -/
def secV (s : List Nat) : AV := .iarr .u8 256 (ints s)
def secs (L : List (List Nat)) : List AV := L.map secV
def wrV (p : Nat × List Nat) : AV := .agg [.int .i64 (p.1 : Int), secV p.2]
def wrs (w : List (Nat × List Nat)) : List AV := w.map wrV
@[simp] theorem secs_length (L : List (List Nat)) : (secs L).length = L.length := by simp [secs]
@[simp] theorem wrs_length (w : List (Nat × List Nat)) : (wrs w).length = w.length := by simp [wrs]
theorem secs_get {L : List (List Nat)} {i : Nat} (h : i < L.length) : (secs L)[i]? = some (secV L[i]) := by simp [secs, h]
theorem wrs_get {w : List (Nat × List Nat)} {i : Nat} (h : i < w.length) : (wrs w)[i]? = some (wrV w[i]) := by simp [wrs, h]
theorem secs_getE {L : List (List Nat)} {i : Nat} (h : i < (secs L).length) : (secs L)[i] = secV (L[i]'(by simpa using h)) := by simp [secs]
theorem wrs_getE {w : List (Nat × List Nat)} {i : Nat} (h : i < (wrs w).length) : (wrs w)[i] = wrV (w[i]'(by simpa using h)) := by simp [wrs]
theorem secs_set (L : List (List Nat)) (i : Nat) (s : List Nat) : (secs L).set i (secV s) = secs (L.set i s) := by simp [secs, List.map_set]
theorem wrs_snoc (w : List (Nat × List Nat)) (p : Nat × List Nat) : wrs (w ++ [p]) = wrs w ++ [wrV p] := by simp [wrs]
/-- The map of what waits. -/
def NowOK (m : List (Int × AV)) (w : List (Nat × List Nat)) : Prop := ∀ a : Nat, getM m a = (lookO w a).map secV
theorem NowOK.nil : NowOK [] [] := fun a => rfl
theorem NowOK.put {m : List (Int × AV)} {w : List (Nat × List Nat)} (h : NowOK m w) (a : Nat) (s : List Nat) : NowOK (putM m a (secV s)) (w ++ [(a, s)]) := fun b => by
  rw [getM_putM, lookO_snoc, h b]
  by_cases e : b = a
  · subst e; simp
  · have e1 : ¬ (b : Int) = (a : Int) := by omega
    have e2 : ¬ a = b := fun h => e h.symm
    simp [e1, e2]
def dskC (gl : Nat) (v : AV) (gm : Nat) (D : Dsk) : Cont := .var T_disk_Disk [.own gl 0 D.last.length, v, .map gm, .int .i64 D.steps, .int .i64 D.fuse, .bool D.down]
/-- A disk, atop of A. -/
structure DskIn (A : Heap) (g gl : Nat) (v : AV) (gm : Nat) (D : Dsk) (B : Heap) : Prop where
  wf : D.Wf
  ag : A g = none
  al : A gl = none
  am : A gm = none
  at' : B g = some (dskC gl v gm D)
  row : B gl = some (.row T_256_uint8 256 (secs D.last))
  wait : SlR T_disk_write 257 v (wrs D.wait) A B
  now : ∃ m, B gm = some (.mp .i64 m) ∧ NowOK m D.wait
def DskAt (A : Heap) (g : Nat) (D : Dsk) (B : Heap) : Prop := ∃ gl v gm, DskIn A g gl v gm D B
theorem DskIn.mono {A B C : Heap} {g gl gm : Nat} {v : AV} {D : Dsk} (h : DskIn A g gl v gm D B) (hs : B.Sub C) : DskIn A g gl v gm D C :=
  ⟨h.wf, h.ag, h.al, h.am, hs _ _ h.at', hs _ _ h.row, h.wait.mono hs, let ⟨m, h1, h2⟩ := h.now; ⟨m, hs _ _ h1, h2⟩⟩
theorem DskAt.mono {A B C : Heap} {g : Nat} {D : Dsk} (h : DskAt A g D B) (hs : B.Sub C) : DskAt A g D C := let ⟨gl, v, gm, h⟩ := h; ⟨gl, v, gm, h.mono hs⟩
theorem DskAt.wf {A B : Heap} {g : Nat} {D : Dsk} (h : DskAt A g D B) : D.Wf := let ⟨_, _, _, h⟩ := h; h.wf
theorem DskAt.sub {A B : Heap} {g : Nat} {D : Dsk} (h : DskAt A g D B) : A.Sub B := let ⟨_, _, _, h⟩ := h; h.wait.sub
theorem DskAt.free {A B : Heap} {g : Nat} {D : Dsk} (h : DskAt A g D B) : A g = none := let ⟨_, _, _, h⟩ := h; h.ag
theorem DskAt.base {A A' B : Heap} {g : Nat} {D : Dsk} (h : DskAt A g D B) (hs : A'.Sub A) : DskAt A' g D B :=
  let ⟨gl, v, gm, h⟩ := h
  ⟨gl, v, gm, h.wf, sub_noneL hs h.ag, sub_noneL hs h.al, sub_noneL hs h.am, h.at', h.row, h.wait.base hs, h.now⟩
theorem DskIn.rebase {A B : Heap} {g gl gm x : Nat} {v : AV} {c : Cont} {D : Dsk} (h : DskIn A g gl v gm D B) (hx : B x = none) : DskIn (A.set x c) g gl v gm D (B.set x c) := by
  obtain ⟨m, h1, h2⟩ := h.now
  have n1 := fresh_ne h.at' hx
  have n2 := fresh_ne h.row hx
  have n3 := fresh_ne h1 hx
  exact ⟨h.wf, by simp [n1, h.ag], by simp [n2, h.al], by simp [n3, h.am], by simp [n1, h.at'], by simp [n2, h.row], h.wait.rebase hx, m, by simp [n3, h1], h2⟩
theorem DskAt.rebase {A B : Heap} {g x : Nat} {c : Cont} {D : Dsk} (h : DskAt A g D B) (hx : B x = none) : DskAt (A.set x c) g D (B.set x c) := let ⟨gl, v, gm, h⟩ := h; ⟨gl, v, gm, h.rebase hx⟩
theorem DskAt.poke {A B : Heap} {g x : Nat} {c0 c : Cont} {D : Dsk} (h : DskAt A g D B) (hx : A x = some c0) : DskAt (A.set x c) g D (B.set x c) := by
  obtain ⟨gl, v, gm, h⟩ := h
  obtain ⟨m, h1, h2⟩ := h.now
  have ne : ∀ {y : Nat}, A y = none → y ≠ x := fun hy e => by rw [e, hx] at hy; cases hy
  refine ⟨gl, v, gm, h.wf, by simp [ne h.ag, h.ag], by simp [ne h.al, h.al], by simp [ne h.am, h.am], by simp [ne h.ag, h.at'], by simp [ne h.al, h.row], ⟨set_sub h.wait.sub, h.wait.own.imp id fun ⟨y, e1, e2, e3⟩ => ⟨y, e1, by simp [ne e2, e2], by simp [ne e2, e3]⟩⟩, m, by simp [ne h.am, h1], h2⟩
theorem DskAt.plus {A B B' : Heap} {g : Nat} {D : Dsk} (h : DskAt A g D B) (hs : B.Sub B') : DskAt (A.plus B B') g D B' := by
  obtain ⟨gl, v, gm, h⟩ := h
  obtain ⟨m, h1, h2⟩ := h.now
  refine ⟨gl, v, gm, h.wf, plus_none h.at' h.ag, plus_none h.row h.al, plus_none h1 h.am, hs _ _ h.at', hs _ _ h.row, ⟨plus_sub h.wait.sub hs, h.wait.own.imp id fun ⟨x, e1, e2, e3⟩ => ⟨x, e1, plus_none e3 e2, hs _ _ e3⟩⟩, m, hs _ _ h1, h2⟩
theorem DskAt.del {A B : Heap} {g x : Nat} {c0 : Cont} {D : Dsk} (h : DskAt A g D B) (hx : A x = some c0) : DskAt (A.del x) g D (B.del x) := by
  obtain ⟨gl, v, gm, h⟩ := h
  obtain ⟨m, h1, h2⟩ := h.now
  have ne : ∀ {y : Nat}, A y = none → y ≠ x := fun hy e => by rw [e, hx] at hy; cases hy
  have nn : ∀ {y : Nat}, A y = none → A.del x y = none := fun hy => by rw [del_app]; split; rfl; exact hy
  refine ⟨gl, v, gm, h.wf, nn h.ag, nn h.al, nn h.am, by rw [del_app, if_neg (ne h.ag)]; exact h.at', by rw [del_app, if_neg (ne h.al)]; exact h.row, ⟨fun y c hy => ?_, h.wait.own.imp id fun ⟨y, e1, e2, e3⟩ => ⟨y, e1, nn e2, by rw [del_app, if_neg (ne e2)]; exact e3⟩⟩, m, by rw [del_app, if_neg (ne h.am)]; exact h1, h2⟩
  rw [del_app] at hy ⊢
  split at hy
  · cases hy
  · rename_i e; rw [if_neg e]; exact h.wait.sub _ _ hy
/-- What is new, over a smaller base. -/
theorem DskAt.split {A B B' : Heap} {g : Nat} {D : Dsk} (h : DskAt B g D B') (hA : A.Sub B) : DskAt A g D (A.plus B B') := by
  obtain ⟨gl, v, gm, h⟩ := h
  obtain ⟨m, h1, h2⟩ := h.now
  refine ⟨gl, v, gm, h.wf, sub_noneL hA h.ag, sub_noneL hA h.al, sub_noneL hA h.am, by rw [plus_new h.ag]; exact h.at', by rw [plus_new h.al]; exact h.row, ⟨sub_plus hA, h.wait.own.imp id fun ⟨x, e1, e2, e3⟩ => ⟨x, e1, sub_noneL hA e2, by rw [plus_new e2]; exact e3⟩⟩, m, by rw [plus_new h.am]; exact h1, h2⟩
section
variable {A B : Heap} {g gl gm : Nat} {v : AV} {D : Dsk}
theorem DskIn.gl_g (h : DskIn A g gl v gm D B) : gl ≠ g := by rintro rfl; have := h.at'; rw [h.row] at this; cases this
theorem DskIn.gm_g (h : DskIn A g gl v gm D B) : gm ≠ g := by rintro rfl; obtain ⟨m, h1, _⟩ := h.now; have := h.at'; rw [h1] at this; cases this
theorem DskIn.gm_gl (h : DskIn A g gl v gm D B) : gm ≠ gl := by rintro rfl; obtain ⟨m, h1, _⟩ := h.now; have := h.row; rw [h1] at this; cases this
/-- Only the numbers of it change. -/
theorem DskIn.nums (h : DskIn A g gl v gm D B) (n : Nat) {f : Int} (hf : f < 9223372036854775808) (d : Bool) : DskIn A g gl v gm { D with steps := n, fuse := f, down := d } (B.set g (dskC gl v gm { D with steps := n, fuse := f, down := d })) := by
  obtain ⟨m, h1, h2⟩ := h.now
  refine ⟨⟨h.wf.last, h.wf.wait, h.wf.size, hf⟩, h.ag, h.al, h.am, by simp, by simp [h.gl_g, h.row], ⟨fun x c hx => ?_, ?_⟩, m, by simp [h.gm_g, h1], h2⟩
  · rw [set_app, if_neg (fresh_ne hx h.ag)]; exact h.wait.sub _ _ hx
  · refine h.wait.own.imp id fun ⟨x, e1, e2, e3⟩ => ⟨x, e1, e2, ?_⟩
    have : x ≠ g := by rintro rfl; have := h.at'; rw [e3] at this; cases this
    simp [this, e3]
/-- A sector that lasts is stored. -/
theorem DskIn.store (h : DskIn A g gl v gm D B) (a : Nat) {s : List Nat} (hs : Sec s) : DskIn A g gl v gm { D with last := D.last.set a s } (B.set gl (.row T_256_uint8 256 ((secs D.last).set a (secV s)))) := by
  obtain ⟨m, h1, h2⟩ := h.now
  have hv := h.wait.ne h.row (fun l e => by cases e)
  refine ⟨⟨sec_set h.wf.last hs, by simpa using h.wf.wait, by simpa using h.wf.size, h.wf.fuse⟩, h.ag, h.al, h.am, ?_, by simp [secs_set], h.wait.set h.al hv, m, by simp [h.gm_gl, h1], h2⟩
  have := h.at'
  rw [Heap.set_ne _ _ (Ne.symm h.gl_g), this]
  simp [dskC]
end
end Go.Proofs.Ytilgdnbijkcboaa

/- The walks of a disk's small functions. -/
namespace Go.Proofs.Ytilgdnbijkcboaa
open Go AVL
attribute [-simp] AV.isAgg aappI aapp alen shp good comps
set_option linter.unusedVariables false
set_option linter.unusedSimpArgs false
set_option maxRecDepth 8000

section
variable {A B : Heap} {g gl gm : Nat} {v : AV} {D : Dsk} {K Kp : AV → Heap → Prop}
theorem w_disk_Waits (h : DskAt A g D B) (hk : K (.int .i64 D.wait.length) B) : SimX Try.prog F_Pdisk_Disk_Waits [.ptr g 0] B (outK K Kp) := by
  obtain ⟨gl, v, gm, h⟩ := h
  refine j_Pdisk_Disk_Waits (by simp) ?_
  have h1 := h.at'
  unfold dskC at h1
  have hs := h.wait.scl
  simp -implicitDefEqProofs [a_Pdisk_Disk_Waits, q_Pdisk_Disk_Waits_0, q_Pdisk_Disk_Waits_1, h1, hs.size, hs.shp, hs.agg, hs.good, hs.comps, h.wait.len, outOf]
  exact hk
theorem w_disk_inside (h : DskIn A g gl v gm D B) {a : Int} (hk : K (.bool (D.inside a)) B) : SimX Try.prog F_Pdisk_Disk_inside [.ptr g 0, .int .i64 a] B (outK K Kp) := by
  refine j_Pdisk_Disk_inside (by simp) ?_
  have h1 := h.at'
  unfold dskC at h1
  have hs := h.wait.scl
  unfold Dsk.inside at hk
  by_cases h0 : 0 ≤ a
  · simp [h0] at hk
    simp -implicitDefEqProofs [a_Pdisk_Disk_inside, q_Pdisk_Disk_inside_0, q_Pdisk_Disk_inside_1, h0, h1, hs.size, hs.shp, hs.agg, hs.good, hs.comps, outOf]
    exact hk
  · simp [h0] at hk
    simp -implicitDefEqProofs [a_Pdisk_Disk_inside, q_Pdisk_Disk_inside_0, q_Pdisk_Disk_inside_1, h0, outOf]
    exact hk
theorem w_disk_Fuse (h : DskAt A g D B) {n : Int} (hn : n < 9223372036854775808) (hk : ∀ B', DskAt A g (D.setFuse n) B' → K (.tuple []) B') : SimX Try.prog F_Pdisk_Disk_Fuse [.ptr g 0, .int .i64 n] B (outK K Kp) := by
  obtain ⟨gl, v, gm, h⟩ := h
  refine j_Pdisk_Disk_Fuse (by simp) ?_
  have h1 := h.at'
  unfold dskC at h1
  have hs := h.wait.scl
  simp -implicitDefEqProofs [a_Pdisk_Disk_Fuse, q_Pdisk_Disk_Fuse_0, h1, hs.size, hs.shp, hs.agg, hs.good, hs.comps, outOf, pop]
  refine hk _ ⟨gl, v, gm, ?_⟩
  have e : (if n < -1 then -1 else n) = (if n < 0 then -1 else n) := by split <;> split <;> omega
  have := h.nums D.steps (f := if n < 0 then -1 else n) (by split <;> omega) D.down
  unfold dskC at this
  simpa [Dsk.setFuse, e] using this
/-- Whether there is power. -/
def codeOf (b : Bool) : Int := if b then 0 else 4
theorem w_disk_step (h : DskIn A g gl v gm D B) (hst : D.steps < 2 ^ 62) (hk : ∀ B', DskIn A g gl v gm D.step B' → K (.int .i64 (codeOf D.ok)) B') : SimX Try.prog F_Pdisk_Disk_step [.ptr g 0] B (outK K Kp) := by
  refine j_Pdisk_Disk_step (by simp) ?_
  have h1 := h.at'
  unfold dskC at h1
  have hs := h.wait.scl
  have hfu := h.wf.fuse
  have wst : IntKind.i64.wrap ((D.steps : Int) + 1) = (D.steps : Int) + 1 := wrap_i64 (by omega)
  by_cases hd : D.down = true
  · have hn := h.nums D.steps hfu true
    have e1 : D.ok = false := by simp [Dsk.ok, hd]
    have e2 : D.step = { D with steps := D.steps, fuse := D.fuse, down := true } := by simp [Dsk.step, hd]
    simp -implicitDefEqProofs [a_Pdisk_Disk_step, q_Pdisk_Disk_step_0, q_Pdisk_Disk_step_1, q_Pdisk_Disk_step_2, q_Pdisk_Disk_step_3, h1, hs.size, hs.shp, hs.agg, hs.good, hs.comps, outOf, hd]
    rw [e1, e2] at hk
    exact hk _ hn
  · have hd' : D.down = false := by simpa using hd
    by_cases hf : D.fuse = 0
    · have hn := h.nums D.steps hfu true
      have e1 : D.ok = false := by simp [Dsk.ok, hf]
      have e2 : D.step = { D with steps := D.steps, fuse := D.fuse, down := true } := by simp [Dsk.step, hf]
      rw [e1, e2] at hk
      have := hk _ hn
      unfold dskC at this
      rw [hf] at this h1
      simp -implicitDefEqProofs [a_Pdisk_Disk_step, q_Pdisk_Disk_step_0, q_Pdisk_Disk_step_1, q_Pdisk_Disk_step_2, q_Pdisk_Disk_step_3, h1, hs.size, hs.shp, hs.agg, hs.good, hs.comps, outOf, hd', hf]
      exact this
    · have e1 : D.ok = true := by simp [Dsk.ok, hf, hd']
      by_cases hf0 : 0 < D.fuse
      · have hn := h.nums (D.steps + 1) (f := D.fuse - 1) (by omega) false
        have e2 : D.step = { D with steps := D.steps + 1, fuse := D.fuse - 1, down := false } := by simp [Dsk.step, hf, hd', hf0]
        have wf : IntKind.i64.wrap (D.fuse - 1) = D.fuse - 1 := wrap_i64 (by omega)
        rw [e1, e2] at hk
        have := hk _ hn
        unfold dskC at this
        simp -implicitDefEqProofs [a_Pdisk_Disk_step, q_Pdisk_Disk_step_0, q_Pdisk_Disk_step_1, q_Pdisk_Disk_step_4, q_Pdisk_Disk_step_5, q_Pdisk_Disk_step_6, q_Pdisk_Disk_step_7, h1, hs.size, hs.shp, hs.agg, hs.good, hs.comps, outOf, hd', hf, hf0, wf, wst]
        simpa [codeOf] using this
      · have hn := h.nums (D.steps + 1) hfu false
        have e2 : D.step = { D with steps := D.steps + 1, fuse := D.fuse, down := false } := by simp [Dsk.step, hf, hd', hf0]
        rw [e1, e2] at hk
        have := hk _ hn
        unfold dskC at this
        simp -implicitDefEqProofs [a_Pdisk_Disk_step, q_Pdisk_Disk_step_0, q_Pdisk_Disk_step_1, q_Pdisk_Disk_step_4, q_Pdisk_Disk_step_6, q_Pdisk_Disk_step_7, h1, hs.size, hs.shp, hs.agg, hs.good, hs.comps, outOf, hd', hf, hf0, wst]
        simpa [codeOf] using this
end
end Go.Proofs.Ytilgdnbijkcboaa

/- The walks of a disk's Read, Write, settle, Flush, Crash. -/
namespace Go.Proofs.Ytilgdnbijkcboaa
open Go AVL
attribute [-simp] AV.isAgg aappI aapp alen shp good comps
set_option linter.unusedVariables false
set_option linter.unusedSimpArgs false
set_option maxRecDepth 8000

def zsec : List Int := List.replicate 256 0
theorem ints_z : ints z256 = zsec := by simp [ints, z256, zsec]
def Dsk.rd (D : Dsk) (a : Int) : List Nat × Int := if D.inside a then if D.down then (z256, 4) else (D.val a.toNat, 0) else (z256, 2)
theorem Dsk.rd_sec {D : Dsk} (h : D.Wf) (a : Int) : Sec (D.rd a).1 := by
  unfold Dsk.rd
  split
  · split
    · exact sec_z
    · rename_i hi _
      simp only [Dsk.inside, Bool.and_eq_true, decide_eq_true_eq] at hi
      exact D.val_sec h (by omega)
  · exact sec_z
section
variable {A B : Heap} {g gl gm : Nat} {v : AV} {D : Dsk} {K Kp : AV → Heap → Prop}
theorem w_disk_Read (h : DskAt A g D B) {a : Int} (hk : ∀ B', B.Sub B' → K (.tuple [secV (D.rd a).1, .int .i64 (D.rd a).2]) B') : SimX Try.prog F_Pdisk_Disk_Read [.ptr g 0, .int .i64 a] B (outK K Kp) := by
  obtain ⟨gl, v, gm, h⟩ := h
  refine j_Pdisk_Disk_Read (by simp) ?_
  have h1 := h.at'
  unfold dskC at h1
  have hs := h.wait.scl
  obtain ⟨m, hm, hnow⟩ := h.now
  simp -implicitDefEqProofs [a_Pdisk_Disk_Read, q_Pdisk_Disk_Read_0, q_Pdisk_Disk_Read_1, -List.reduceReplicate]
  intro g4 h4
  have n1 := fresh_ne h1 h4
  have n2 := fresh_ne hm h4
  have n3 := fresh_ne h.row h4
  refine w_disk_inside (h.mono (sub_none h4)) ?_
  unfold secV Dsk.rd at hk
  cases hi : D.inside a
  · rw [hi] at hk
    simp [ints_z, zsec, -List.reduceReplicate] at hk
    simp -implicitDefEqProofs [hi, q_Pdisk_Disk_Read_2, outOf, -List.reduceReplicate]
    exact hk _ (sub_none h4)
  · rw [hi] at hk
    simp only [Dsk.inside, Bool.and_eq_true, decide_eq_true_eq] at hi
    cases hd : D.down
    · rw [hd] at hk
      obtain ⟨n, rfl⟩ : ∃ n : Nat, a = n := ⟨a.toNat, by omega⟩
      have hn : n < D.last.length := by omega
      have hni : (n : Int) < D.last.length := by omega
      simp at hk
      have hg := hnow n
      simp -implicitDefEqProofs [hi, hd, h1, n1, q_Pdisk_Disk_Read_3, q_Pdisk_Disk_Read_5, q_Pdisk_Disk_Read_6, hs.size, hs.shp, hs.agg, hs.good, hs.comps, hm, n2, hg, lkV, -List.reduceReplicate]
      unfold Dsk.val at hk
      rw [look_eq] at hk
      cases ho : lookO D.wait n with
      | some s =>
        rw [ho] at hk
        simp at hk
        simp -implicitDefEqProofs [secV, -List.reduceReplicate]
        intro g6 h6 n6 h6'
        simp -implicitDefEqProofs [q_Pdisk_Disk_Read_7, h6, n6, outOf, -List.reduceReplicate]
        exact hk _ (sub_set' (sub_new (sub_none h4) (by simp [h6, h6'])) h4)
      | none =>
        rw [ho] at hk
        simp [hn] at hk
        simp -implicitDefEqProofs [-List.reduceReplicate]
        intro g6 h6 n6 h6'
        have hrow := h.row
        have n6' := fresh_ne hrow h6'
        have n7 := fresh_ne h1 h6'
        simp -implicitDefEqProofs [q_Pdisk_Disk_Read_8, h1, n1, n3, n6, n6', n7, h6, hs.size, hs.shp, hs.agg, hs.good, hs.comps, hrow, hn, hni, secs_getE, secV, outOf, -List.reduceReplicate]
        exact hk _ (sub_set' (sub_new (sub_none h4) (by simp [h6, h6'])) h4)
    · rw [hd] at hk
      simp [ints_z, zsec, -List.reduceReplicate] at hk
      simp -implicitDefEqProofs [hi, hd, h1, n1, q_Pdisk_Disk_Read_3, q_Pdisk_Disk_Read_4, hs.size, hs.shp, hs.agg, hs.good, hs.comps, outOf, -List.reduceReplicate]
      exact hk _ (sub_none h4)
theorem w_disk_Write (h : DskAt A g D B) (hst : D.steps < 2 ^ 62) (hwl : D.wait.length < 2 ^ 32) {a : Int} {s : List Nat} (hs : Sec s)
    (hk : ∀ B', DskAt A g (if D.inside a then D.write a.toNat s else D) B' → K (.int .i64 (if D.inside a then codeOf D.ok else 2)) B') : SimX Try.prog F_Pdisk_Disk_Write [.ptr g 0, .int .i64 a, secV s] B (outK K Kp) := by
  obtain ⟨gl, v, gm, h⟩ := h
  refine j_Pdisk_Disk_Write (by simp) ?_
  simp -implicitDefEqProofs [a_Pdisk_Disk_Write, q_Pdisk_Disk_Write_0, q_Pdisk_Disk_Write_1, secV, -List.reduceReplicate]
  intro g5 h5
  refine w_disk_inside (h.mono (sub_none h5)) ?_
  cases hi : D.inside a
  · rw [hi] at hk
    simp at hk
    simp -implicitDefEqProofs [hi, q_Pdisk_Disk_Write_2, outOf, -List.reduceReplicate]
    exact hk _ (DskAt.mono ⟨gl, v, gm, h⟩ (sub_none h5))
  · rw [hi] at hk
    simp only [Dsk.inside, Bool.and_eq_true, decide_eq_true_eq] at hi
    obtain ⟨n, rfl⟩ : ∃ n : Nat, a = n := ⟨a.toNat, by omega⟩
    have hn : n < D.last.length := by omega
    simp at hk
    simp -implicitDefEqProofs [hi, q_Pdisk_Disk_Write_3, -List.reduceReplicate]
    refine w_disk_step (h.rebase h5) hst fun B1 hB1 => ?_
    obtain ⟨A1, hA1⟩ : ∃ X, A.set g5 (.var 54 [.iarr .u8 256 (ints s)]) = X := ⟨_, rfl⟩
    have hAA : A.Sub A1 := by rw [← hA1]; exact sub_none (sub_noneL h.wait.sub h5)
    have hA5 : A1 g5 = some (.var 54 [.iarr .u8 256 (ints s)]) := by rw [← hA1]; simp
    rw [hA1] at hB1
    clear hA1
    cases hok : D.ok
    · simp -implicitDefEqProofs [codeOf, q_Pdisk_Disk_Write_4, q_Pdisk_Disk_Write_5, outOf, -List.reduceReplicate]
      rw [hok] at hk
      refine hk _ (DskAt.base ⟨gl, v, gm, ?_⟩ hAA)
      simpa [Dsk.write, hok] using hB1
    · obtain ⟨X, x1, x2, x3, x4, x5⟩ := hB1.wait.top
      obtain ⟨m, hm, hnow⟩ := hB1.now
      have h1 := hB1.at'
      have hng := hB1.wait.not_base (x := g5) hA5
      have hag := hB1.ag
      have f5 := hB1.wait.sub _ _ hA5
      have hg5 : g5 ≠ g := by rintro rfl; rw [hA5] at hag; cases hag
      have vg := hB1.wait.ne h1 (fun l e => by cases e)
      have vm := hB1.wait.ne hm (fun l e => by cases e)
      have vl := hB1.wait.ne hB1.row (fun l e => by cases e)
      have xg := x4 _ _ h1 vg
      have xm := x4 _ _ hm vm
      have xl := x4 _ _ hB1.row vl
      have x6 := x4 _ _ f5 hng
      unfold dskC at h1 xg
      have hsc := hB1.wait.scl
      simp -implicitDefEqProofs [codeOf, q_Pdisk_Disk_Write_4, q_Pdisk_Disk_Write_6, h1, f5, hsc.size, hsc.shp, hsc.agg, hsc.good, hsc.comps, -List.reduceReplicate]
      intro g25 h25
      refine x3.app (ys := [wrV (n, s)]) (bytes := 264) (C := B1.set g25 (.row 135 257 [wrV (n, s)])) (by simp) (by simp [wrV, secV]) (sub_none h25) h25 (by simp [D.step_wait]; omega) fun v' C' hC' hv' => ?_
      have c1 := hC'.sub _ _ xg
      have c2 := hC'.sub _ _ xm
      have c3 := hC'.sub _ _ xl
      have c5 := hC'.sub _ _ x6
      have nm : gm ≠ g := hB1.gm_g
      have nl : gl ≠ g := hB1.gl_g
      have nml : gm ≠ gl := hB1.gm_gl
      have hsc' := hC'.scl
      simp -implicitDefEqProofs [c1, hsc.size, hsc'.size, hsc'.st, hsc'.shp, hsc'.agg, hsc'.good, hsc'.comps, q_Pdisk_Disk_Write_7, q_Pdisk_Disk_Write_8, nm, hg5, c5, c2, outOf, -List.reduceReplicate]
      rw [hok] at hk
      refine hk _ ⟨gl, v', gm, ?_⟩
      have hw : D.write n s = { D.step with wait := D.wait ++ [(n, s)] } := by simp [Dsk.write, hok]
      have hwf := D.write_wf h.wf hn hs
      rw [hw] at hwf ⊢
      have hC2 := ((hC'.base (sub_tr hAA x1)).set (c := dskC gl v' gm { D.step with wait := D.wait ++ [(n, s)] }) h.ag (hC'.not_base xg)).set (c := .mp .i64 (putM m n (secV s))) h.am (hC'.not_base xm)
      rw [D.step_wait, ← wrs_snoc] at hC2
      rw [D.step_wait] at hnow
      refine ⟨hwf, h.ag, h.al, h.am, by simp [Ne.symm nm, dskC], by simp [nl, Ne.symm nml, c3], hC2, _, set_eq', hnow.put n s⟩
theorem w_disk_settle (h : DskIn A g gl v gm D B) (hwl : D.wait.length < 2 ^ 32) (keep : Nat → Bool) {fv : AV} {f : FuncId} {cap : List AV} (hf : fv = .func (.func f) [] cap) (hcl : callable Try.prog f = true)
    (hcall : ∀ (i : Nat) (C : Heap) (K Kp : AV → Heap → Prop), i < D.wait.length → A.Sub C → (∀ C', C.Sub C' → K (.bool (keep i)) C') → SimX Try.prog f (.int .i64 i :: cap) C (outK K Kp))
    (hk : ∀ B', DskAt A g (D.settle keep) B' → K (.int .i64 (stn keep D.wait.length)) B') : SimX Try.prog F_Pdisk_Disk_settle [.ptr g 0, fv] B (outK K Kp) := by
  subst hf
  have hwf0 := h.wf
  refine j_Pdisk_Disk_settle (by simp) ?_
  have h1 := h.at'
  unfold dskC at h1
  have hsc := h.wait.scl
  simp -implicitDefEqProofs [a_Pdisk_Disk_settle, q_Pdisk_Disk_settle_0, q_Pdisk_Disk_settle_1, q_Pdisk_Disk_settle_2, h1, hsc.size, hsc.shp, hsc.agg, hsc.good, hsc.comps, h.wait.len, -List.reduceReplicate]
  refine X_lp (fun (i : Nat) env B => i ≤ D.wait.length ∧ env 0 = .ptr g 0 ∧ env 1 = .func (.func f) [] cap ∧ env 5 = .int .i64 (stn keep i) ∧ env 11 = v ∧ env 12 = .int .i64 D.wait.length ∧ env 13 = .int .i64 i ∧ DskIn A g gl v gm { D with last := stl keep D.wait D.last i } B) (fun i => D.wait.length - i) 0
    ⟨by omega, by simp, by simp, by simp [stn], by simp, by simp, by simp, h⟩ ?_
  clear h h1
  rintro i env B ⟨hi, e0, e1, e5, e11, e12, e13, hd⟩
  have h1 := hd.at'
  unfold dskC at h1
  have hsn := stn_le keep i
  by_cases hil : i < D.wait.length
  · have hil' : (i : Int) < D.wait.length := by omega
    have wi : IntKind.i64.wrap ((i : Int) + 1) = (i : Int) + 1 := wrap_i64 (by omega)
    have ws : IntKind.i64.wrap (((stn keep i : Nat) : Int) + 1) = ((stn keep i + 1 : Nat) : Int) := by rw [wrap_i64 (by omega)]; omega
    obtain ⟨gw, rfl, hgA, hgw⟩ := hd.wait.pos (by simpa using Nat.lt_of_le_of_lt (Nat.zero_le _) hil)
    obtain ⟨D', hD'⟩ : ∃ x, { D with last := stl keep D.wait D.last i } = x := ⟨_, rfl⟩
    have dw : D'.wait = D.wait := by rw [← hD']
    have dl : D'.last.length = D.last.length := by rw [← hD']; simp
    rw [hD'] at h1 hd hgw
    rw [hD', dw] at e11
    rw [dw] at hgw
    have hwgt := hd.wf.wait D.wait[i] (by rw [dw]; exact List.getElem_mem hil)
    simp -implicitDefEqProofs [q_Pdisk_Disk_settle_L9, q_Pdisk_Disk_settle_3, q_Pdisk_Disk_settle_4, e0, e1, e5, e11, e12, e13, hil, hil', hgw, wrs_getE, wrV, secV, -List.reduceReplicate]
    intro g7 h7
    have n1 := fresh_ne h1 h7
    have n2 := fresh_ne hgw h7
    have n3 := fresh_ne hd.row h7
    simp -implicitDefEqProofs [q_Pdisk_Disk_settle_5, e1, hcl, -List.reduceReplicate]
    refine hcall i _ _ _ hil (sub_new hd.wait.sub h7) fun C hC => ?_
    have c1 := hC g _ (by rw [Heap.set_ne _ _ n1]; exact h1)
    have c3 := hC gl _ (by rw [Heap.set_ne _ _ n3]; exact hd.row)
    have c7 := hC g7 _ (by simp; rfl)
    have hd2 := (hd.mono (sub_none h7)).mono hC
    have hst := stl_succ (keep := keep) (L := D.last) hil
    cases hkp : keep i
    · rw [hkp] at hst
      simp -implicitDefEqProofs [q_Pdisk_Disk_settle_8, e13, wi, -List.reduceReplicate]
      refine lp_next (i + 1) ⟨by omega, by simp [e0], by simp [e1], by simp [e5, stn, hkp], by simp [e11, dw], by simp [e12], by simp, ?_⟩ (by omega)
      rw [hst]
      simpa [hD', dw] using hd2
    · rw [hkp] at hst
      have hws : D.wait[i].1 < D'.last.length := hwgt.1
      simp -implicitDefEqProofs [q_Pdisk_Disk_settle_6, q_Pdisk_Disk_settle_7, q_Pdisk_Disk_settle_8, e0, e13, e5, wi, ws, c1, c3, c7, hws, secs_getE, secV, -List.reduceReplicate]
      have hd3 := hd2.store D.wait[i].1 hwgt.2
      refine lp_next (i + 1) ⟨by omega, by simp [e0], by simp [e1], by simp [stn, hkp], by simp [e11, dw], by simp [e12], by simp, ?_⟩ (by omega)
      rw [hst]
      subst hD'
      simpa [secV] using hd3
  · have hie : i = D.wait.length := by omega
    subst hie
    simp -implicitDefEqProofs [q_Pdisk_Disk_settle_L9, q_Pdisk_Disk_settle_3, q_Pdisk_Disk_settle_9, q_Pdisk_Disk_settle_10, e0, e1, e5, e11, e12, e13, outOf, -List.reduceReplicate]
    intro gm' hgm'
    have n1 := fresh_ne h1 hgm'
    simp -implicitDefEqProofs [n1, h1, hsc.size, hsc.shp, hsc.agg, hsc.good, hsc.comps, outOf, -List.reduceReplicate]
    refine hk _ ⟨gl, .nilS, gm', ?_⟩
    have hA' := sub_noneL hd.wait.sub hgm'
    have n2 := fresh_ne hd.row hgm'
    exact ⟨Dsk.settle_wf hwf0 keep, hd.ag, hd.al, hA', by simp [dskC, Dsk.settle], by simp [hd.gl_g, n2, hd.row, Dsk.settle], SlR.nil (sub_set' (sub_new hd.wait.sub hgm') hd.ag), [], by simp [Ne.symm n1], NowOK.nil⟩
theorem w_disk_Flush (h : DskAt A g D B) (hst : D.steps < 2 ^ 62) (hwl : D.wait.length < 2 ^ 32) (hk : ∀ B', DskAt A g D.flush B' → K (.int .i64 (codeOf D.ok)) B') : SimX Try.prog F_Pdisk_Disk_Flush [.ptr g 0] B (outK K Kp) := by
  obtain ⟨gl, v, gm, h⟩ := h
  refine j_Pdisk_Disk_Flush (by simp) ?_
  simp -implicitDefEqProofs [a_Pdisk_Disk_Flush, q_Pdisk_Disk_Flush_0, q_Pdisk_Disk_Flush_1]
  refine w_disk_step h hst fun B1 hB1 => ?_
  unfold Dsk.flush at hk
  cases hok : D.ok
  · rw [hok] at hk
    simp -implicitDefEqProofs [codeOf, q_Pdisk_Disk_Flush_2, q_Pdisk_Disk_Flush_3, outOf]
    exact hk _ ⟨_, _, _, hB1⟩
  · rw [hok] at hk
    simp -implicitDefEqProofs [codeOf, q_Pdisk_Disk_Flush_2, q_Pdisk_Disk_Flush_4]
    refine w_disk_settle hB1 (by rw [D.step_wait]; exact hwl) (fun _ => true) rfl k_Pdisk_Disk_Flush_1 (fun i C K Kp _ _ hk => ?_) fun B2 hB2 => ?_
    · refine j_Pdisk_Disk_Flush_1 (by simp) ?_
      simp -implicitDefEqProofs [a_Pdisk_Disk_Flush_1, q_Pdisk_Disk_Flush_1_0, q_Pdisk_Disk_Flush_1_1, outOf]
      exact hk _ (Sub_refl _)
    · simp -implicitDefEqProofs [q_Pdisk_Disk_Flush_5, outOf]
      exact hk _ hB2
def bls (l : List Bool) : List AV := l.map .bool
@[simp] theorem bls_length (l : List Bool) : (bls l).length = l.length := by simp [bls]
theorem bls_getE {l : List Bool} {i : Nat} (h : i < (bls l).length) : (bls l)[i] = .bool (l[i]'(by simpa using h)) := by simp [bls]
/-- Where the list of what is kept lies. -/
def KeepV (A : Heap) (kv : AV) (l : List Bool) : Prop := kv = .dsl 1 (bls l) ∨ ∃ gk, kv = .own gk 0 l.length ∧ A gk = some (.row T_bool 1 (bls l))
theorem w_disk_Crash (h : DskAt A g D B) (hwl : D.wait.length < 2 ^ 32) {kv : AV} {keep : List Bool} (hkv : KeepV A kv keep) (hk : ∀ B', DskAt A g (D.crash keep) B' → K (.int .i64 (stn (keeps keep) D.wait.length)) B') : SimX Try.prog F_Pdisk_Disk_Crash [.ptr g 0, kv] B (outK K Kp) := by
  obtain ⟨gl, v, gm, h⟩ := h
  refine j_Pdisk_Disk_Crash (by simp) ?_
  have hks : kv.isAgg = false ∧ good kv = true ∧ comps kv = [kv] ∧ kv.st = true ∧ shp .sc [kv] = some kv ∧ kv.size = 1 := by
    rcases hkv with rfl | ⟨gk, rfl, _⟩ <;> exact ⟨rfl, rfl, rfl, rfl, rfl, rfl⟩
  obtain ⟨k1, k2, k3, k4, k5, k6⟩ := hks
  have h1 := h.at'
  unfold dskC at h1
  have hsc := h.wait.scl
  simp -implicitDefEqProofs [a_Pdisk_Disk_Crash, q_Pdisk_Disk_Crash_0, q_Pdisk_Disk_Crash_1, k1, k2, k3, k4, k5, k6]
  intro g3 h3
  have n1 := fresh_ne h1 h3
  simp -implicitDefEqProofs [h1, n1, hsc.size, hsc.shp, hsc.agg, hsc.good, hsc.comps, q_Pdisk_Disk_Crash_2, pop]
  have hA3 := sub_noneL h.wait.sub h3
  have hb := ((h.rebase (c := .var 75 [kv]) h3).nums D.steps (f := -1) (by decide) false)
  have hkA : KeepV (A.set g3 (.var 75 [kv])) kv keep := hkv.imp id fun ⟨gk, e1, e2⟩ => ⟨gk, e1, by rw [Heap.set_ne _ _ (fresh_ne e2 hA3)]; exact e2⟩
  have hA33 : (A.set g3 (.var 75 [kv])) g3 = some (.var 75 [kv]) := by simp
  obtain ⟨A3, hA3'⟩ : ∃ X, A.set g3 (.var 75 [kv]) = X := ⟨_, rfl⟩
  have hAA : A.Sub A3 := by rw [← hA3']; exact sub_none hA3
  rw [hA3'] at hb hkA hA33
  refine w_disk_settle hb hwl (keeps keep) rfl k_Pdisk_Disk_Crash_1 (fun i C K Kp hi hs hk => ?_) fun B2 hB2 => ?_
  · refine j_Pdisk_Disk_Crash_1 (by simp) ?_
    have c3 := hs _ _ hA33
    unfold keeps at hk
    by_cases hil : i < keep.length
    · have hil' : (i : Int) < keep.length := by omega
      rw [List.getD_eq_getElem?_getD, List.getElem?_eq_getElem hil] at hk
      rcases hkA with rfl | ⟨gk, rfl, hgk⟩
      · simp -implicitDefEqProofs [a_Pdisk_Disk_Crash_1, q_Pdisk_Disk_Crash_1_0, q_Pdisk_Disk_Crash_1_1, c3, hil, hil', bls_getE, outOf]
        exact hk _ (Sub_refl _)
      · have ck := hs _ _ hgk
        simp -implicitDefEqProofs [a_Pdisk_Disk_Crash_1, q_Pdisk_Disk_Crash_1_0, q_Pdisk_Disk_Crash_1_1, c3, ck, hil, hil', bls_getE, outOf]
        exact hk _ (Sub_refl _)
    · have hil' : ¬ (i : Int) < keep.length := by omega
      rw [List.getD_eq_getElem?_getD, List.getElem?_eq_none (by omega)] at hk
      rcases hkA with rfl | ⟨gk, rfl, hgk⟩
      · simp -implicitDefEqProofs [a_Pdisk_Disk_Crash_1, q_Pdisk_Disk_Crash_1_0, q_Pdisk_Disk_Crash_1_1, c3, hil, hil', outOf]
        exact hk _ (Sub_refl _)
      · simp -implicitDefEqProofs [a_Pdisk_Disk_Crash_1, q_Pdisk_Disk_Crash_1_0, q_Pdisk_Disk_Crash_1_1, c3, hil, hil', outOf]
        exact hk _ (Sub_refl _)
  · simp -implicitDefEqProofs [outOf]
    refine hk _ (hB2.base hAA)
end
end Go.Proofs.Ytilgdnbijkcboaa

/- The walks of a disk's Image, Pending, New, Twin. -/
namespace Go.Proofs.Ytilgdnbijkcboaa
open Go AVL
attribute [-simp] AV.isAgg aappI aapp alen shp good comps
set_option linter.unusedVariables false
set_option linter.unusedSimpArgs false
set_option maxRecDepth 8000

theorem secs_sts (L : List (List Nat)) : AV.sts (secs L) = true := by
  induction L with
  | nil => rfl
  | cons s L ih => simp only [secs, List.map_cons, AV.sts, secV, AV.st, Bool.true_and]; exact ih
theorem wrs_sts (w : List (Nat × List Nat)) : AV.sts (wrs w) = true := by
  induction w with
  | nil => rfl
  | cons s L ih => simp only [wrs, List.map_cons, AV.sts, wrV, secV, AV.st, Bool.true_and]; exact ih
section
variable {A B : Heap} {g gl gm : Nat} {v : AV} {D : Dsk} {K Kp : AV → Heap → Prop}
theorem w_disk_New {n : Int} (hb : ¬ (1 ≤ n ∧ n ≤ 4096) → K (.tuple [.nilP, .int .i64 2]) B) (hk : 1 ≤ n ∧ n ≤ 4096 → ∀ g B', DskAt B g (Dsk.fresh n.toNat) B' → K (.tuple [.ptr g 0, .int .i64 0]) B') : SimX Try.prog F_disk_New [.int .i64 n] B (outK K Kp) := by
  refine j_disk_New (by simp) ?_
  by_cases hn : 1 ≤ n ∧ n ≤ 4096
  · have hk := hk hn
    have c1 : ¬ n < 1 := by omega
    have c2 : ¬ 4096 < n := by omega
    obtain ⟨m, rfl⟩ : ∃ m : Nat, n = m := ⟨n.toNat, by omega⟩
    simp -implicitDefEqProofs [a_disk_New, q_disk_New_0, q_disk_New_1, q_disk_New_3, c1, c2, outOf, -List.reduceReplicate]
    refine ⟨by omega, fun gl hl gm n1 n1' hm g n2 n2' n3 n3' hg => ?_⟩
    refine hk g _ ⟨gl, .nilS, gm, Dsk.fresh_wf (by omega), hg, hl, hm, by simp [dskC, Dsk.fresh], ?_, SlR.nil (sub_new (sub_new (sub_none hl) ?_) ?_), [], by simp [n2, n2'], NowOK.nil⟩
    · simp [n3, n3', n1, n1', Dsk.fresh, secs, secV, ints_z, zsec, -List.reduceReplicate]
    · simp [n1, n1', hm]
    · simp [n2, n2', n3, n3', hg]
  · have hb := hb hn
    by_cases c1 : n < 1
    · simp -implicitDefEqProofs [a_disk_New, q_disk_New_0, q_disk_New_1, q_disk_New_2, c1, outOf]
      exact hb
    · have c2 : 4096 < n := by omega
      simp -implicitDefEqProofs [a_disk_New, q_disk_New_0, q_disk_New_1, q_disk_New_2, c1, c2, outOf]
      exact hb
end
end Go.Proofs.Ytilgdnbijkcboaa

/- The walks of Read and Bump. -/
namespace Go.Proofs.Ytilgdnbijkcboaa
open Go AVL
attribute [-simp] AV.isAgg aappI aapp alen List.reduceReplicate
attribute [simp] shp good comps
set_option linter.unusedVariables false
set_option linter.unusedSimpArgs false
set_option maxRecDepth 8000

/-- A number of a super that was read: nought, if there is none. -/
def gF (x : List Nat) (i k : Nat) : Int := if supO x then (fld x i k : Nat) else 0
def gSup (x : List Nat) : AV := supV (gF x 8 2) (gF x 10 2) (gF x 12 2) (gF x 14 2) (gF x 16 8)
theorem supG_eq (x : List Nat) : supG x (supO x) = gSup x := by
  unfold supG gSup gF
  cases supO x <;> rfl
theorem w_super_Get' {x : List Nat} (hx : Sec x) : Gives Try.prog F_super_Get [.iarr .u8 256 (ints x)] (.tuple [gSup x, .int .i64 (supGC (supO x))]) := by
  have := w_super_Get hx.2 hx.1
  rwa [supG_eq] at this
theorem w_ref08_Get' {x : List Nat} (hx : Sec x) : Gives Try.prog F_ref08_Get [.iarr .u8 256 (ints x)] (.tuple [gSup x, .int .i64 (supGC (supO x))]) := by
  have := w_ref08_Get hx.2 hx.1
  rwa [supG_eq] at this
def chG (a b : List Nat) : AV := chV (gSup a) (gSup b) (supGC (supO a)) (supGC (supO b)) (gF a 16 8) (gF b 16 8)
theorem w_super_Choose {a b : List Nat} (ha : Sec a) (hb : Sec b) : Gives Try.prog F_super_Choose [.iarr .u8 256 (ints a), .iarr .u8 256 (ints b)] (chG a b) := w_super_Choose_of ha.1 hb.1 (w_super_Get' ha) (w_super_Get' hb)
theorem w_ref08_Choose {a b : List Nat} (ha : Sec a) (hb : Sec b) : Gives Try.prog F_ref08_Choose [.iarr .u8 256 (ints a), .iarr .u8 256 (ints b)] (chG a b) := w_ref08_Choose_of ha.1 hb.1 (w_ref08_Get' ha) (w_ref08_Get' hb)
/-- What is chosen: five numbers, which, a code. -/
theorem chG_parts (a b : List Nat) : ∃ s t c u m w k : Int, chG a b = .tuple [supV s t c u m, .int .i64 w, .int .i64 k] ∧
    ((supO a = false ∧ supO b = false ∧ s = 0 ∧ t = 0 ∧ c = 0 ∧ u = 0 ∧ m = 0 ∧ w = 0 ∧ k = 5) ∨
     (supO b = true ∧ (supO a = true → gF a 16 8 < gF b 16 8) ∧ supV s t c u m = gSup b ∧ m = gF b 16 8 ∧ w = 1 ∧ k = 0) ∨
     (supO a = true ∧ (supO b = true → gF b 16 8 ≤ gF a 16 8) ∧ supV s t c u m = gSup a ∧ m = gF a 16 8 ∧ w = 0 ∧ k = 0)) := by
  unfold chG chV
  cases ha : supO a <;> cases hb : supO b
  · exact ⟨0, 0, 0, 0, 0, 0, 5, by simp [supGC], .inl ⟨by simp, by simp, rfl, rfl, rfl, rfl, rfl, rfl, rfl⟩⟩
  · exact ⟨gF b 8 2, gF b 10 2, gF b 12 2, gF b 14 2, gF b 16 8, 1, 0, by simp [supGC, gSup], .inr (.inl ⟨by simp, by simp, rfl, rfl, rfl, rfl⟩)⟩
  · exact ⟨gF a 8 2, gF a 10 2, gF a 12 2, gF a 14 2, gF a 16 8, 0, 0, by simp [supGC, gSup], .inr (.inr ⟨by simp, by simp, rfl, rfl, rfl, rfl⟩)⟩
  · by_cases h : gF a 16 8 < gF b 16 8
    · exact ⟨gF b 8 2, gF b 10 2, gF b 12 2, gF b 14 2, gF b 16 8, 1, 0, by simp [supGC, h, gSup], .inr (.inl ⟨by simp, fun _ => h, rfl, rfl, rfl, rfl⟩)⟩
    · exact ⟨gF a 8 2, gF a 10 2, gF a 12 2, gF a 14 2, gF a 16 8, 0, 0, by simp [supGC, h, gSup], .inr (.inr ⟨by simp, fun _ => by omega, rfl, rfl, rfl, rfl⟩)⟩
section
variable {A B : Heap} {g : Nat} {D : Dsk} {K Kp : AV → Heap → Prop}
def readV (D : Dsk) : AV := if (D.rd 0).2 ≠ 0 ∨ (D.rd 1).2 ≠ 0 then .tuple [supV 0 0 0 0 0, .int .i64 0, .int .i64 (max (D.rd 0).2 (D.rd 1).2)] else chG (D.rd 0).1 (D.rd 1).1
theorem w_super_Read_nil : Gives Try.prog F_super_Read [.nilP] (.tuple [supV 0 0 0 0 0, .int .i64 0, .int .i64 1]) := by
  refine v_super_Read (by simp) ?_
  simp -implicitDefEqProofs [a_super_Read, q_super_Read_0, q_super_Read_1, q_super_Read_2, outOf, supV]
theorem w_super_Read (h : DskAt A g D B) (hk : ∀ B', B.Sub B' → K (readV D) B') : SimX Try.prog F_super_Read [.ptr g 0] B (outK K Kp) := by
  refine j_super_Read (by simp) ?_
  unfold a_super_Read
  have s0 := Dsk.rd_sec h.wf 0
  have s1 := Dsk.rd_sec h.wf 1
  obtain ⟨r3, hr3⟩ : ∃ r, r = q_super_Read_3 := ⟨_, rfl⟩; rw [← hr3]
  obtain ⟨r4, hr4⟩ : ∃ r, r = q_super_Read_4 := ⟨_, rfl⟩; rw [← hr4]
  obtain ⟨r5, hr5⟩ : ∃ r, r = q_super_Read_5 := ⟨_, rfl⟩; rw [← hr5]
  obtain ⟨r7, hr7⟩ : ∃ r, r = q_super_Read_7 := ⟨_, rfl⟩; rw [← hr7]
  simp -implicitDefEqProofs [q_super_Read_0, q_super_Read_1]
  intro g2 hg2
  obtain ⟨Y, hY⟩ : ∃ Y, Y = B.set g2 (.var 58 [.int .i64 0, .int .i64 0, .int .i64 0, .int .i64 0, .int .i64 0]) := ⟨_, rfl⟩
  try simp only [← hY]
  have hsY : B.Sub Y := by rw [hY]; exact sub_none hg2
  have y2 : Y g2 = some (.var 58 [.int .i64 0, .int .i64 0, .int .i64 0, .int .i64 0, .int .i64 0]) := by rw [hY, set_eq']
  clear hY
  obtain ⟨p, hp⟩ : ∃ p, p = D.rd 0 := ⟨_, rfl⟩
  obtain ⟨q, hq⟩ : ∃ q, q = D.rd 1 := ⟨_, rfl⟩
  rw [← hp] at s0
  rw [← hq] at s1
  simp -implicitDefEqProofs [hr3, q_super_Read_3]
  refine w_disk_Read (h.mono hsY) fun B1 k1 => ?_
  rw [← hp]
  have b2 := k1 _ _ y2
  simp -implicitDefEqProofs [secV, s0.1]
  intro g5 hg5
  have n25 : ¬ g2 = g5 := fun e => by rw [← e, b2] at hg5; cases hg5
  obtain ⟨Z, hZ⟩ : ∃ Z, Z = B1.set g5 (.var 54 [.iarr .u8 256 (ints p.1)]) := ⟨_, rfl⟩
  try simp only [← hZ]
  have hsZ : B1.Sub Z := by rw [hZ]; exact sub_none hg5
  have z5 : Z g5 = some (.var 54 [.iarr .u8 256 (ints p.1)]) := by rw [hZ, set_eq']
  clear hZ
  have z2 := hsZ _ _ b2
  simp -implicitDefEqProofs [hr4, q_super_Read_4]
  refine w_disk_Read ((h.mono hsY).mono (sub_tr k1 hsZ)) fun B2 k2 => ?_
  rw [← hq]
  have c2 := k2 _ _ z2
  have c5 := k2 _ _ z5
  simp -implicitDefEqProofs [secV, s1.1]
  intro g7 hg7
  have n27 : ¬ g2 = g7 := fun e => by rw [← e, c2] at hg7; cases hg7
  have n57 : ¬ g5 = g7 := fun e => by rw [← e, c5] at hg7; cases hg7
  obtain ⟨W, hW⟩ : ∃ W, W = B2.set g7 (.var 54 [.iarr .u8 256 (ints q.1)]) := ⟨_, rfl⟩
  try simp only [← hW]
  have hsW : B2.Sub W := by rw [hW]; exact sub_none hg7
  have w7 : W g7 = some (.var 54 [.iarr .u8 256 (ints q.1)]) := by rw [hW, set_eq']
  clear hW
  have w2 := hsW _ _ c2
  have w5 := hsW _ _ c5
  have hBW : B.Sub W := sub_tr hsY (sub_tr k1 (sub_tr hsZ (sub_tr k2 hsW)))
  have hfin : ∀ c, B.Sub (W.set g2 c) := fun c => sub_set' hBW hg2
  have hmx : (if q.2 > p.2 then q.2 else p.2) = max p.2 q.2 := by
    by_cases h : q.2 > p.2
    · rw [if_pos h]; omega
    · rw [if_neg h]; omega
  unfold readV at hk
  rw [← hp, ← hq] at hk
  by_cases hc : p.2 ≠ 0 ∨ q.2 ≠ 0
  · rw [if_pos hc] at hk
    by_cases hp0 : p.2 = 0
    · have hq0 : ¬ q.2 = 0 := by rcases hc with h | h; exact absurd hp0 h; exact h
      simp -implicitDefEqProofs [hr5, q_super_Read_5, hp0, hq0]
      simp -implicitDefEqProofs [q_super_Read_6, w2, outOf]
      have e : (if 0 < q.2 then q.2 else 0) = max p.2 q.2 := by rw [← hmx, hp0]
      rw [e]
      have hk' := hk _ (hfin (.var 58 [.int .i64 0, .int .i64 0, .int .i64 0, .int .i64 0, .int .i64 0]))
      unfold supV at hk'
      exact hk'
    · simp -implicitDefEqProofs [hr5, q_super_Read_5, hp0]
      simp -implicitDefEqProofs [q_super_Read_6, w2, outOf]
      have e : (if p.2 < q.2 then q.2 else p.2) = max p.2 q.2 := hmx
      rw [e]
      have hk' := hk _ (hfin (.var 58 [.int .i64 0, .int .i64 0, .int .i64 0, .int .i64 0, .int .i64 0]))
      unfold supV at hk'
      exact hk'
  · rw [if_neg hc] at hk
    have hp0 : p.2 = 0 := by omega
    have hq0 : q.2 = 0 := by omega
    obtain ⟨s, t, c, u, m, w, k, hch, _⟩ := chG_parts p.1 q.1
    have hC := w_super_Choose s0 s1
    rw [hch] at hC hk
    unfold supV at hC hk
    simp -implicitDefEqProofs [hr5, q_super_Read_5, hp0, hq0]
    simp -implicitDefEqProofs [hr7, q_super_Read_7, w5, w7, s0.1, s1.1]
    refine hC.call (.cons (.refl _) rfl (.cons (.refl _) rfl .nil)) rfl ?_
    simp -implicitDefEqProofs [w2, outOf]
    exact hk _ (hfin _)
end
end Go.Proofs.Ytilgdnbijkcboaa

/- The walk of Bump. -/
namespace Go.Proofs.Ytilgdnbijkcboaa
open Go AVL
attribute [-simp] AV.isAgg aappI aapp alen List.reduceReplicate
attribute [simp] shp good comps
set_option linter.unusedVariables false
set_option linter.unusedSimpArgs false
set_option maxRecDepth 8000

theorem gF_num {x : List Nat} (hx : Sec x) : 0 ≤ gF x 16 8 ∧ gF x 16 8 ≤ 1099511627776 := by
  unfold gF
  cases h : supO x with
  | false => simp
  | true =>
    have := ((supO_iff hx.2 hx.1).1 h).num
    simp only [if_true]
    omega
theorem readV_parts {D : Dsk} (h : D.Wf) : ∃ s t c u m w k : Int, readV D = .tuple [supV s t c u m, .int .i64 w, .int .i64 k] ∧ 0 ≤ m ∧ m ≤ 1099511627776 ∧ (w = 0 ∨ w = 1) := by
  unfold readV
  split
  · exact ⟨0, 0, 0, 0, 0, 0, _, rfl, by omega, by omega, .inl rfl⟩
  · have s0 := gF_num (Dsk.rd_sec h 0)
    have s1 := gF_num (Dsk.rd_sec h 1)
    obtain ⟨s, t, c, u, m, w, k, hch, h3⟩ := chG_parts (D.rd 0).1 (D.rd 1).1
    refine ⟨s, t, c, u, m, w, k, hch, ?_⟩
    rcases h3 with ⟨_, _, _, _, _, _, h5, h6, _⟩ | ⟨_, _, _, h5, h6, _⟩ | ⟨_, _, _, h5, h6, _⟩ <;> subst h5 <;> subst h6
    · exact ⟨by omega, by omega, .inl rfl⟩
    · exact ⟨s1.1, s1.2, .inr rfl⟩
    · exact ⟨s0.1, s0.2, .inl rfl⟩
/-- The disk behind Bump, and what Bump returns: of what was read. -/
def bmp (D : Dsk) (s t c u m w k : Int) : Dsk × AV × Int :=
  if k ≠ 0 then (D, supV 0 0 0 0 0, k) else
  if supC s t c u (m + 1) ≠ 0 then (D, supV 0 0 0 0 0, supC s t c u (m + 1)) else
  if (if D.inside (1 - w) then codeOf D.ok else 2) ≠ 0 then ((if D.inside (1 - w) then D.write (1 - w).toNat (supS s t c u (m + 1)) else D), supV 0 0 0 0 0, (if D.inside (1 - w) then codeOf D.ok else 2)) else
  if codeOf (if D.inside (1 - w) then D.write (1 - w).toNat (supS s t c u (m + 1)) else D).ok ≠ 0 then ((if D.inside (1 - w) then D.write (1 - w).toNat (supS s t c u (m + 1)) else D).flush, supV 0 0 0 0 0, codeOf (if D.inside (1 - w) then D.write (1 - w).toNat (supS s t c u (m + 1)) else D).ok) else
  ((if D.inside (1 - w) then D.write (1 - w).toNat (supS s t c u (m + 1)) else D).flush, supV s t c u (m + 1), 0)
theorem supS_sec (s t c a n : Int) : Sec (supS s t c a n) := by
  unfold supS
  split
  · exact ⟨sealN_len _, sealN_bytes (supB_bytes _ _ _ _ _)⟩
  · exact ⟨rfl, fun x hx => by
      have : zz256 = List.replicate 256 0 := rfl
      rw [this] at hx
      rw [List.eq_of_mem_replicate hx]; decide⟩
theorem w_super_Bump_nil : Gives Try.prog F_super_Bump [.nilP] (.tuple [supV 0 0 0 0 0, .int .i64 1]) := by
  refine v_super_Bump (by simp) ?_
  have hr := w_super_Read_nil
  unfold supV at hr
  simp -implicitDefEqProofs [a_super_Bump, q_super_Bump_0, q_super_Bump_1]
  intro g2
  refine hr.call (.cons (.refl _) rfl .nil) rfl ?_
  simp -implicitDefEqProofs
  intro g4 n1 n2
  simp -implicitDefEqProofs [q_super_Bump_2, q_super_Bump_3, n1, n2, outOf, supV]
section
variable {A B : Heap} {g : Nat} {D : Dsk} {K Kp : AV → Heap → Prop}
theorem w_super_Bump (h : DskAt A g D B) (hst : D.steps < 2 ^ 61) (hwl : D.wait.length < 2 ^ 31) {s t c u m w k : Int} (hr : readV D = .tuple [supV s t c u m, .int .i64 w, .int .i64 k]) (hm0 : 0 ≤ m) (hm1 : m ≤ 1099511627776) (hw : w = 0 ∨ w = 1)
    (hk : ∀ B', DskAt A g (bmp D s t c u m w k).1 B' → K (.tuple [(bmp D s t c u m w k).2.1, .int .i64 (bmp D s t c u m w k).2.2]) B') : SimX Try.prog F_super_Bump [.ptr g 0] B (outK K Kp) := by
  refine j_super_Bump (by simp) ?_
  unfold a_super_Bump
  obtain ⟨r2, hr2⟩ : ∃ r, r = q_super_Bump_2 := ⟨_, rfl⟩; rw [← hr2]
  obtain ⟨r4, hr4⟩ : ∃ r, r = q_super_Bump_4 := ⟨_, rfl⟩; rw [← hr4]
  obtain ⟨r5, hr5⟩ : ∃ r, r = q_super_Bump_5 := ⟨_, rfl⟩; rw [← hr5]
  obtain ⟨r6, hr6⟩ : ∃ r, r = q_super_Bump_6 := ⟨_, rfl⟩; rw [← hr6]
  obtain ⟨r8, hr8⟩ : ∃ r, r = q_super_Bump_8 := ⟨_, rfl⟩; rw [← hr8]
  obtain ⟨r9, hr9⟩ : ∃ r, r = q_super_Bump_9 := ⟨_, rfl⟩; rw [← hr9]
  obtain ⟨r11, hr11⟩ : ∃ r, r = q_super_Bump_11 := ⟨_, rfl⟩; rw [← hr11]
  obtain ⟨r12, hr12⟩ : ∃ r, r = q_super_Bump_12 := ⟨_, rfl⟩; rw [← hr12]
  obtain ⟨r14, hr14⟩ : ∃ r, r = q_super_Bump_14 := ⟨_, rfl⟩; rw [← hr14]
  unfold bmp at hk
  simp -implicitDefEqProofs [q_super_Bump_0, q_super_Bump_1]
  intro g2 hg2
  have a2 : A g2 = none := sub_noneL h.sub hg2
  obtain ⟨c2, hc2⟩ : ∃ x, x = Cont.var 58 [.int .i64 0, .int .i64 0, .int .i64 0, .int .i64 0, .int .i64 0] := ⟨_, rfl⟩
  have h1 := h.rebase (c := c2) hg2
  refine w_super_Read (by rw [← hc2]; exact h1) fun B2 k2 => ?_
  rw [← hc2] at k2
  have h2 := h1.mono k2
  rw [hr]
  unfold supV
  simp -implicitDefEqProofs
  intro g4 hg4
  have b2 : B2 g2 = some c2 := k2 _ _ set_eq'
  have n24 : ¬ g2 = g4 := fun e => by rw [← e, b2] at hg4; cases hg4
  have a4 : A g4 = none := sub_noneL (sub_tr (sub_none (c := c2) a2) h2.sub) hg4
  obtain ⟨c4, hc4⟩ : ∃ x, x = Cont.var 58 [.int .i64 s, .int .i64 t, .int .i64 c, .int .i64 u, .int .i64 m] := ⟨_, rfl⟩
  have h4 := h2.rebase (c := c4) hg4
  have z2 : (B2.set g4 c4) g2 = some c2 := by rw [set_ne' n24]; exact b2
  have z4 : (B2.set g4 c4) g4 = some c4 := set_eq'
  rw [← hc4]
  obtain ⟨Z, hZ⟩ : ∃ Z, Z = B2.set g4 c4 := ⟨_, rfl⟩
  obtain ⟨A4, hA4⟩ : ∃ Z, Z = (A.set g2 c2).set g4 c4 := ⟨_, rfl⟩
  rw [← hZ, ← hA4] at h4
  rw [← hZ] at z2 z4
  have y2 : A4 g2 = some c2 := by rw [hA4, set_ne' n24, set_eq']
  have y4 : A4 g4 = some c4 := by rw [hA4, set_eq']
  have hA : A.Sub A4 := by rw [hA4]; exact sub_tr (sub_none a2) (sub_none (by rw [set_ne' (fun e => n24 e.symm)]; exact a4))
  try simp only [← hZ]
  clear hZ hA4
  rw [hc2] at z2 y2
  rw [hc4] at z4 y4
  by_cases hk0 : k = 0
  · rw [if_neg (by simpa using hk0)] at hk
    have wm : IntKind.i64.wrap (m + 1) = m + 1 := wrap_i64 (by omega)
    simp -implicitDefEqProofs [hr2, q_super_Bump_2, hk0]
    simp -implicitDefEqProofs [hr4, q_super_Bump_4, z4, wm]
    obtain ⟨c5, hc5⟩ : ∃ x, x = Cont.var 58 [.int .i64 s, .int .i64 t, .int .i64 c, .int .i64 u, .int .i64 (m + 1)] := ⟨_, rfl⟩
    have h5 := h4.poke (c := c5) y4
    have n42 : ¬ g4 = g2 := fun e => n24 e.symm
    obtain ⟨Z5, hZ5⟩ : ∃ Z', Z' = Z.set g4 c5 := ⟨_, rfl⟩
    obtain ⟨A5, hA5⟩ : ∃ Z', Z' = A4.set g4 c5 := ⟨_, rfl⟩
    rw [← hc5]
    try simp only [← hZ5]
    rw [← hZ5, ← hA5] at h5
    have w2 : Z5 g2 = some (.var 58 [.int .i64 0, .int .i64 0, .int .i64 0, .int .i64 0, .int .i64 0]) := by rw [hZ5, set_ne' n24]; exact z2
    have w4 : Z5 g4 = some (.var 58 [.int .i64 s, .int .i64 t, .int .i64 c, .int .i64 u, .int .i64 (m + 1)]) := by rw [hZ5, set_eq', hc5]
    have x2 : A5 g2 = some (.var 58 [.int .i64 0, .int .i64 0, .int .i64 0, .int .i64 0, .int .i64 0]) := by rw [hA5, set_ne' n24]; exact y2
    have x4 : A5 g4 = some (.var 58 [.int .i64 s, .int .i64 t, .int .i64 c, .int .i64 u, .int .i64 (m + 1)]) := by rw [hA5, set_eq', hc5]
    have hA' : A.Sub A5 := by rw [hA5]; exact sub_set' hA a4
    clear hZ5 hA5 hc5
    have hP := w_super_Put s t c u (m + 1)
    obtain ⟨S, hS⟩ : ∃ S, S = supS s t c u (m + 1) := ⟨_, rfl⟩
    obtain ⟨e, he⟩ : ∃ e, e = supC s t c u (m + 1) := ⟨_, rfl⟩
    have hSs : Sec S := by rw [hS]; exact supS_sec _ _ _ _ _
    rw [← hS, ← he] at hP hk
    unfold supV at hP hk
    simp -implicitDefEqProofs [hr5, q_super_Bump_5, w4]
    refine hP.call (.cons (.refl _) rfl .nil) rfl ?_
    simp -implicitDefEqProofs [hSs.1]
    intro g7 hg7
    have n27 : ¬ g2 = g7 := fun e => by rw [← e, w2] at hg7; cases hg7
    have n47 : ¬ g4 = g7 := fun e => by rw [← e, w4] at hg7; cases hg7
    have a7 : A g7 = none := sub_noneL (sub_tr hA' h5.sub) hg7
    have h7 := h5.rebase (c := .var 54 [.iarr .u8 256 (ints S)]) hg7
    obtain ⟨Z7, hZ7⟩ : ∃ Z', Z' = Z5.set g7 (.var 54 [.iarr .u8 256 (ints S)]) := ⟨_, rfl⟩
    obtain ⟨A7, hA7⟩ : ∃ Z', Z' = A5.set g7 (.var 54 [.iarr .u8 256 (ints S)]) := ⟨_, rfl⟩
    try simp only [← hZ7]
    rw [← hZ7, ← hA7] at h7
    have v2 : Z7 g2 = some (.var 58 [.int .i64 0, .int .i64 0, .int .i64 0, .int .i64 0, .int .i64 0]) := by rw [hZ7, set_ne' n27]; exact w2
    have v4 : Z7 g4 = some (.var 58 [.int .i64 s, .int .i64 t, .int .i64 c, .int .i64 u, .int .i64 (m + 1)]) := by rw [hZ7, set_ne' n47]; exact w4
    have v7 : Z7 g7 = some (.var 54 [.iarr .u8 256 (ints S)]) := by rw [hZ7, set_eq']
    have u2 : A7 g2 = some (.var 58 [.int .i64 0, .int .i64 0, .int .i64 0, .int .i64 0, .int .i64 0]) := by rw [hA7, set_ne' n27]; exact x2
    have u4 : A7 g4 = some (.var 58 [.int .i64 s, .int .i64 t, .int .i64 c, .int .i64 u, .int .i64 (m + 1)]) := by rw [hA7, set_ne' n47]; exact x4
    have hA7' : A.Sub A7 := by rw [hA7]; exact sub_set' hA' a7
    clear hZ7 hA7
    have fin2 : ∀ {D' : Dsk} {B' : Heap} {x : Cont}, DskAt A7 g D' B' → DskAt A g D' (B'.set g2 x) := fun hd => (hd.poke u2).base (sub_set' hA7' a2)
    by_cases he0 : e = 0
    · rw [if_neg (by simpa using he0)] at hk
      simp -implicitDefEqProofs [hr6, q_super_Bump_6, he0]
      have ww : IntKind.i64.wrap (1 - w) = 1 - w := wrap_i64 (by omega)
      have hwr := @w_disk_Write A7 Z7 g D
      obtain ⟨D1, hD1⟩ : ∃ D1, D1 = (if D.inside (1 - w) then D.write (1 - w).toNat S else D) := ⟨_, rfl⟩
      obtain ⟨e1, he1⟩ : ∃ e1, e1 = (if D.inside (1 - w) then codeOf D.ok else 2) := ⟨_, rfl⟩
      have hD1s : D1.steps < 2 ^ 62 ∧ D1.wait.length < 2 ^ 32 := by
        rw [hD1]
        split
        · unfold Dsk.write Dsk.step
          split <;> split <;> simp <;> omega
        · omega
      rw [← hD1, ← he1] at hk
      simp -implicitDefEqProofs [hr8, q_super_Bump_8, v7, ww]
      refine w_disk_Write h7 (by omega) (by omega) hSs fun B8 k8 => ?_
      rw [← hD1] at k8
      rw [← he1]
      have q2 := k8.sub _ _ u2
      have q4 := k8.sub _ _ u4
      simp -implicitDefEqProofs [hr9, q_super_Bump_9]
      by_cases he10 : e1 = 0
      · rw [if_neg (by simpa using he10)] at hk
        simp -implicitDefEqProofs [he10]
        simp -implicitDefEqProofs [hr11, q_super_Bump_11]
        refine w_disk_Flush k8 hD1s.1 hD1s.2 fun B9 k9 => ?_
        have p2 := k9.sub _ _ u2
        have p4 := k9.sub _ _ u4
        obtain ⟨e2, he2⟩ : ∃ e2, e2 = codeOf D1.ok := ⟨_, rfl⟩
        rw [← he2] at hk ⊢
        simp -implicitDefEqProofs [hr12, q_super_Bump_12]
        by_cases he20 : e2 = 0
        · rw [if_neg (by simpa using he20)] at hk
          simp -implicitDefEqProofs [he20]
          simp -implicitDefEqProofs [hr14, q_super_Bump_14, p2, p4, n24, outOf]
          exact hk _ (fin2 k9)
        · rw [if_pos he20] at hk
          simp -implicitDefEqProofs [he20]
          simp -implicitDefEqProofs [q_super_Bump_13, p2, outOf]
          exact hk _ (fin2 k9)
      · rw [if_pos he10] at hk
        simp -implicitDefEqProofs [he10]
        simp -implicitDefEqProofs [q_super_Bump_10, q2, outOf]
        exact hk _ (fin2 k8)
    · rw [if_pos he0] at hk
      simp -implicitDefEqProofs [hr6, q_super_Bump_6, he0]
      simp -implicitDefEqProofs [q_super_Bump_7, v2, outOf]
      exact hk _ (fin2 h7)
  · rw [if_pos hk0] at hk
    simp -implicitDefEqProofs [hr2, q_super_Bump_2, hk0]
    simp -implicitDefEqProofs [q_super_Bump_3, z2, outOf]
    exact hk _ ((h4.poke y2).base (sub_set' hA a2))
end
end Go.Proofs.Ytilgdnbijkcboaa

/- What stands on a disk with two supers, plainly. -/
namespace Go.Proofs.Ytilgdnbijkcboaa
open Go AVL
attribute [-simp] AV.isAgg aappI aapp alen List.reduceReplicate
attribute [simp] shp good comps
set_option linter.unusedVariables false
set_option linter.unusedSimpArgs false
set_option maxRecDepth 8000

/-- A sector that is a super. -/
structure IsSup (x : List Nat) (s t c a n : Nat) : Prop where
  sec : Sec x
  plan : planOk s t c a
  num : n ≤ 1099511627776
  ok : supO x = true
  sup : gSup x = supV s t c a n
  val : gF x 16 8 = n
theorem isSup {s t c a n : Nat} (hp : planOk s t c a) (hn : n ≤ 1099511627776) : IsSup (sealN (supB s t c a n)) s t c a n := by
  obtain ⟨h1, h2, h3, h4⟩ := planOk_lt hp
  obtain ⟨e1, e2, e3, e4, e5⟩ := fld_sup (s := s) (t := t) (c := c) (a := a) (n := n) h1 h2 h3 h4 (by omega)
  have hs : Sec (sealN (supB s t c a n)) := ⟨sealN_len _, sealN_bytes (supB_bytes _ _ _ _ _)⟩
  have ho := (supO_iff hs.2 hs.1).2 (supOK_sealed hp hn)
  refine ⟨hs, hp, hn, ho, ?_, ?_⟩
  · unfold gSup gF
    rw [if_pos ho, if_pos ho, if_pos ho, if_pos ho, if_pos ho, e1, e2, e3, e4, e5]
  · unfold gF
    rw [if_pos ho, e5]
theorem supC_ok {s t c a n : Nat} (hp : planOk s t c a) (hn : n ≤ 1099511627776) : supC s t c a n = 0 := by
  have hpc : planCode s t c a = 0 := if_pos hp
  unfold supC
  rw [hpc, if_neg (by simp), if_neg (by omega)]
theorem supS_ok {s t c a n : Nat} (hp : planOk s t c a) (hn : n ≤ 1099511627776) : supS s t c a n = sealN (supB s t c a n) := by
  unfold supS
  rw [if_pos (supC_ok hp hn)]
  simp
theorem isSup' {s t c a n : Nat} (hp : planOk s t c a) (hn : n ≤ 1099511627776) : IsSup (supS s t c a n) s t c a n := by
  rw [supS_ok hp hn]; exact isSup hp hn
theorem supC_plan {s t c a n : Int} (h : supC s t c a n = 0) : planOk s t c a ∧ 0 ≤ n ∧ n ≤ 1099511627776 := by
  unfold supC at h
  by_cases h1 : planOk s t c a
  · have h2 : planCode s t c a = 0 := if_pos h1
    rw [h2, if_neg (by simp)] at h
    split at h
    · cases h
    · exact ⟨h1, by omega, by omega⟩
  · have h2 : planCode s t c a = 2 := if_neg h1
    rw [h2] at h
    simp at h
theorem zz_none : supO zz256 = false := by
  have hm : (zz256.take 8) ≠ mkN := by
    unfold zz256 mkN
    rw [List.take_replicate]
    decide
  unfold supO
  rw [decide_eq_false hm]
  simp
theorem chG_one {x y : List Nat} {s t c a n : Nat} (h : IsSup x s t c a n) (hy : supO y = false ∨ gF y 16 8 ≤ gF x 16 8) : chG x y = .tuple [supV s t c a n, .int .i64 0, .int .i64 0] := by
  unfold chG chV
  rw [h.ok, h.sup]
  cases e : supO y with
  | false => simp [supGC]
  | true =>
    have h1 : ¬ gF x 16 8 < gF y 16 8 := by
      rcases hy with h | h
      · rw [e] at h; cases h
      · omega
    simp [supGC, h1]
theorem chG_two {x y : List Nat} {s t c a n : Nat} (h : IsSup x s t c a n) (hy : supO y = false ∨ gF y 16 8 < gF x 16 8) : chG y x = .tuple [supV s t c a n, .int .i64 1, .int .i64 0] := by
  unfold chG chV
  rw [h.ok, h.sup]
  cases e : supO y with
  | false => simp [supGC]
  | true =>
    have h1 : gF y 16 8 < gF x 16 8 := by
      rcases hy with h | h
      · rw [e] at h; cases h
      · exact h
    simp [supGC, h1]
theorem chG_bad {x y : List Nat} (hx : supO x = false) (hy : supO y = false) : chG x y = .tuple [supV 0 0 0 0 0, .int .i64 0, .int .i64 5] := by
  unfold chG chV
  rw [hx, hy]
  simp [supGC]
/-- A disk at rest. -/
structure Rest (D : Dsk) : Prop where
  wait : D.wait = []
  down : D.down = false
  size : 2 ≤ D.last.length
theorem Rest.rd {D : Dsk} (h : Rest D) {a : Nat} (ha : a < 2) : D.rd a = (D.last.getD a [], 0) := by
  have hs := h.size
  have hi : D.inside (a : Int) = true := by
    unfold Dsk.inside
    simp only [Bool.and_eq_true, decide_eq_true_eq]
    omega
  unfold Dsk.rd Dsk.val
  rw [hi, h.down, h.wait]
  simp [look]
theorem Rest.read {D : Dsk} (h : Rest D) : readV D = chG (D.last.getD 0 []) (D.last.getD 1 []) := by
  have h0 := h.rd (a := 0) (by decide)
  have h1 := h.rd (a := 1) (by decide)
  unfold readV
  have h0' : D.rd 0 = (D.last.getD 0 [], 0) := h0
  have h1' : D.rd 1 = (D.last.getD 1 [], 0) := h1
  rw [h0', h1']
  simp
/-- Which of two is there, and which place is free. -/
structure Two (D : Dsk) (s t c a n w : Nat) : Prop where
  rest : Rest D
  lew : w < 2
  here : IsSup (D.last.getD w []) s t c a n
  other : supO (D.last.getD (1 - w) []) = false ∨ (gF (D.last.getD (1 - w) []) 16 8 ≤ n ∧ (w = 1 → gF (D.last.getD (1 - w) []) 16 8 < n))
theorem Two.read {D : Dsk} {s t c a n w : Nat} (h : Two D s t c a n w) : readV D = .tuple [supV s t c a n, .int .i64 w, .int .i64 0] := by
  rw [h.rest.read]
  have hl := h.lew
  have ho := h.other
  have hh := h.here
  rcases (by omega : w = 0 ∨ w = 1) with rfl | rfl
  · rw [chG_one hh (ho.imp id fun h => by rw [hh.val]; exact h.1)]; rfl
  · rw [chG_two hh (ho.imp id fun h => by rw [hh.val]; exact h.2 rfl)]; rfl
theorem getD_set_eq {L : List (List Nat)} {i : Nat} (h : i < L.length) (x : List Nat) : (L.set i x).getD i [] = x := by
  simp [List.getD_eq_getElem?_getD, h]
theorem getD_set_ne {L : List (List Nat)} {i j : Nat} (h : i ≠ j) (x : List Nat) : (L.set i x).getD j [] = L.getD j [] := by
  simp [List.getD_eq_getElem?_getD, h]
/-- Written anew, over the other one. -/
theorem Two.over {D D' : Dsk} {s t c a n w : Nat} (h : Two D s t c a n w) (hn : n + 1 ≤ 1099511627776) (hw : D'.wait = []) (hd : D'.down = false) (hl : D'.last = D.last.set (1 - w) (supS s t c a ((n + 1 : Nat) : Int))) : Two D' s t c a (n + 1) (1 - w) := by
  have hs := h.rest.size
  have hlw := h.lew
  have e1 : D'.last.getD (1 - w) [] = supS s t c a ((n + 1 : Nat) : Int) := by rw [hl, getD_set_eq (by omega)]
  have e2 : D'.last.getD (1 - (1 - w)) [] = D.last.getD w [] := by
    rw [hl, getD_set_ne (by omega), show 1 - (1 - w) = w by omega]
  refine ⟨⟨hw, hd, by rw [hl, List.length_set]; exact hs⟩, by omega, by rw [e1]; exact isSup' h.here.plan hn, .inr ?_⟩
  rw [e2, h.here.val]
  omega
theorem Two.same {D D' : Dsk} {s t c a n w : Nat} (h : Two D s t c a n w) (hw : D'.wait = []) (hd : D'.down = false) (hl : D'.last = D.last) : Two D' s t c a n w :=
  ⟨⟨hw, hd, by rw [hl]; exact h.rest.size⟩, h.lew, by rw [hl]; exact h.here, by rw [hl]; exact h.other⟩
/-- Bump under a fuse, then a crash. -/
theorem Two.bump {D : Dsk} {s t c a n w f : Nat} (h : Two D s t c a n w) (hn : n + 1 ≤ 1099511627776) (hf : f < 4) (b : Bool) {R : Dsk × AV × Int} (hR : R = bmp (D.setFuse f) s t c a n w 0) :
    (Two (R.1.crash [b]) s t c a n w ∨ Two (R.1.crash [b]) s t c a (n + 1) (1 - w)) ∧ (R.2.2 = 0 → Two (R.1.crash [b]) s t c a (n + 1) (1 - w)) ∧ R.1.wait.length ≤ 1 ∧ (R.1.crash [b]).steps ≤ D.steps + 2 := by
  have hsz := h.rest.size
  have hlw := h.lew
  have hS := supC_ok (n := n + 1) h.here.plan hn
  have hS' : supC s t c a ((n : Int) + 1) = 0 := hS
  have e1 : ((1 : Int) - w) = ((1 - w : Nat) : Int) := by omega
  have hi : (D.setFuse f).inside (1 - w) = true := by
    unfold Dsk.inside Dsk.setFuse
    simp only [Bool.and_eq_true, decide_eq_true_eq]
    omega
  obtain ⟨S, hSS⟩ : ∃ S, S = supS s t c a ((n : Int) + 1) := ⟨_, rfl⟩
  have hov : ∀ D' : Dsk, D'.wait = [] → D'.down = false → D'.last = D.last.set (1 - w) S → Two D' s t c a (n + 1) (1 - w) := fun D' h1 h2 h3 => h.over hn h1 h2 (by rw [h3, hSS]; rfl)
  have hsa : ∀ D' : Dsk, D'.wait = [] → D'.down = false → D'.last = D.last → Two D' s t c a n w := fun D' h1 h2 h3 => h.same h1 h2 h3
  have hw := h.rest.wait
  have hd := h.rest.down
  unfold bmp at hR
  rw [hi, hS', ← hSS, e1] at hR
  simp only [Int.toNat_natCast, if_true, ne_eq, not_true_eq_false, if_false] at hR
  rcases (by omega : f = 0 ∨ f = 1 ∨ f = 2 ∨ f = 3) with rfl | rfl | rfl | rfl
  · have : R = (({ D.setFuse 0 with down := true } : Dsk), supV 0 0 0 0 0, 4) := by
      rw [hR]; simp [Dsk.write, Dsk.ok, Dsk.setFuse, Dsk.step, codeOf, hd]
    subst this
    have h1 := hsa (({ D.setFuse 0 with down := true } : Dsk).crash [b]) rfl rfl (by simp [Dsk.crash, Dsk.settle, Dsk.setFuse, hw, stl])
    exact ⟨.inl h1, by intro e; simp at e, by simp [Dsk.setFuse, hw], by simp [Dsk.crash, Dsk.settle, Dsk.setFuse]⟩
  · have : R = (({ D.setFuse 0 with down := true, wait := [(1 - w, S)], steps := D.steps + 1 } : Dsk), supV 0 0 0 0 0, 4) := by
      rw [hR]; simp [Dsk.write, Dsk.flush, Dsk.ok, Dsk.setFuse, Dsk.step, codeOf, hd, hw]
    subst this
    refine ⟨?_, by intro e; simp at e, by simp, by simp [Dsk.crash, Dsk.settle]⟩
    cases b with
    | true => exact .inr (hov _ rfl rfl (by simp [Dsk.crash, Dsk.settle, Dsk.setFuse, stl, keeps]))
    | false => exact .inl (hsa _ rfl rfl (by simp [Dsk.crash, Dsk.settle, Dsk.setFuse, stl, keeps]))
  · have : R = (({ D.setFuse 0 with wait := [], last := D.last.set (1 - w) S, steps := D.steps + 2 } : Dsk), supV s t c a ((n : Int) + 1), 0) := by
      rw [hR]; simp [Dsk.write, Dsk.flush, Dsk.ok, Dsk.setFuse, Dsk.step, codeOf, hd, hw, Dsk.settle, stl]
    subst this
    have h1 := hov (({ D.setFuse 0 with wait := [], last := D.last.set (1 - w) S, steps := D.steps + 2 } : Dsk).crash [b]) rfl rfl (by simp [Dsk.crash, Dsk.settle, Dsk.setFuse, stl])
    exact ⟨.inr h1, fun _ => h1, by simp, by simp [Dsk.crash, Dsk.settle]⟩
  · have : R = (({ D.setFuse 1 with wait := [], last := D.last.set (1 - w) S, steps := D.steps + 2 } : Dsk), supV s t c a ((n : Int) + 1), 0) := by
      rw [hR]; simp [Dsk.write, Dsk.flush, Dsk.ok, Dsk.setFuse, Dsk.step, codeOf, hd, hw, Dsk.settle, stl]
    subst this
    have h1 := hov (({ D.setFuse 1 with wait := [], last := D.last.set (1 - w) S, steps := D.steps + 2 } : Dsk).crash [b]) rfl rfl (by simp [Dsk.crash, Dsk.settle, Dsk.setFuse, stl])
    exact ⟨.inr h1, fun _ => h1, by simp, by simp [Dsk.crash, Dsk.settle]⟩
end Go.Proofs.Ytilgdnbijkcboaa

/- The law's own test of super. -/
namespace Go.Proofs.Ytilgdnbijkcboaa
open Go AVL
attribute [-simp] AV.isAgg aappI aapp alen List.reduceReplicate
attribute [simp] shp good comps
set_option linter.unusedVariables false
set_option linter.unusedSimpArgs false
set_option maxRecDepth 8000

def x6 : List Nat := supS 3 2 1 4 6
def x7 : List Nat := supS 3 2 1 4 7
theorem p3 : planOk (3 : Nat) (2 : Nat) (1 : Nat) (4 : Nat) := by unfold planOk; decide
theorem is6 : IsSup x6 3 2 1 4 6 := isSup' (n := 6) p3 (by decide)
theorem is7 : IsSup x7 3 2 1 4 7 := isSup' (n := 7) p3 (by decide)
theorem c6 : supC 3 2 1 4 6 = 0 := supC_ok (n := 6) p3 (by decide)
theorem c7 : supC 3 2 1 4 7 = 0 := supC_ok (n := 7) p3 (by decide)
theorem z256_none : supO z256 = false := zz_none
def d0 : Dsk := Dsk.fresh 5
def d1 : Dsk := d0.write 1 x6
def d2 : Dsk := ((d1.write 0 x7).flush)
theorem d0_rest : Rest d0 := ⟨rfl, rfl, by decide⟩
theorem d0_read : readV d0 = .tuple [supV 0 0 0 0 0, .int .i64 0, .int .i64 5] := by
  rw [d0_rest.read]
  exact chG_bad z256_none z256_none
theorem d0_bump : bmp d0 0 0 0 0 0 0 5 = (d0, supV 0 0 0 0 0, 5) := rfl
theorem d0_in1 : d0.inside 1 = true := rfl
theorem d1_eq : d1 = ⟨List.replicate 5 z256, [(1, x6)], 1, -1, false⟩ := rfl
theorem d2_eq : d2 = ⟨(((List.replicate 5 z256).set 1 x6).set 0 x7), [], 3, -1, false⟩ := rfl
theorem d1_read : readV d1 = .tuple [supV 3 2 1 4 6, .int .i64 1, .int .i64 0] := by
  rw [d1_eq]
  have h0 : Dsk.rd ⟨List.replicate 5 z256, [(1, x6)], 1, -1, false⟩ 0 = (z256, 0) := rfl
  have h1 : Dsk.rd ⟨List.replicate 5 z256, [(1, x6)], 1, -1, false⟩ 1 = (x6, 0) := rfl
  unfold readV
  rw [h0, h1]
  simp only [ne_eq, not_true_eq_false, or_self, if_false]
  exact chG_two is6 (.inl z256_none)
theorem d1_bump : bmp d1 3 2 1 4 6 1 0 = (d2, supV 3 2 1 4 7, 0) := by
  have h : (6 : Int) + 1 = 7 := rfl
  unfold bmp
  rw [h, c7]
  rfl
theorem d2_rest : Rest d2 := ⟨rfl, rfl, by decide⟩
theorem d2_read : readV d2 = .tuple [supV 3 2 1 4 7, .int .i64 0, .int .i64 0] := by
  rw [d2_rest.read, d2_eq]
  exact chG_one is7 (.inr (by
    show gF x6 16 8 ≤ gF x7 16 8
    rw [is6.val, is7.val]
    decide))
theorem choose67 : chG x6 x7 = .tuple [supV 3 2 1 4 7, .int .i64 1, .int .i64 0] := chG_two is7 (.inr (by rw [is6.val, is7.val]; decide))
theorem w_law08_works : Gives Try.prog F_law08_works [] (.bool true) := by
  refine v_law08_works (by simp) ?_
  unfold a_law08_works
  obtain ⟨r2, hr2⟩ : ∃ r, r = q_law08_works_2 := ⟨_, rfl⟩; rw [← hr2]
  obtain ⟨r3, hr3⟩ : ∃ r, r = q_law08_works_3 := ⟨_, rfl⟩; rw [← hr3]
  obtain ⟨r4, hr4⟩ : ∃ r, r = q_law08_works_4 := ⟨_, rfl⟩; rw [← hr4]
  obtain ⟨r5, hr5⟩ : ∃ r, r = q_law08_works_5 := ⟨_, rfl⟩; rw [← hr5]
  obtain ⟨r6, hr6⟩ : ∃ r, r = q_law08_works_6 := ⟨_, rfl⟩; rw [← hr6]
  obtain ⟨r7, hr7⟩ : ∃ r, r = q_law08_works_7 := ⟨_, rfl⟩; rw [← hr7]
  obtain ⟨r8, hr8⟩ : ∃ r, r = q_law08_works_8 := ⟨_, rfl⟩; rw [← hr8]
  obtain ⟨r11, hr11⟩ : ∃ r, r = q_law08_works_11 := ⟨_, rfl⟩; rw [← hr11]
  obtain ⟨r12, hr12⟩ : ∃ r, r = q_law08_works_12 := ⟨_, rfl⟩; rw [← hr12]
  obtain ⟨r13, hr13⟩ : ∃ r, r = q_law08_works_13 := ⟨_, rfl⟩; rw [← hr13]
  obtain ⟨r14, hr14⟩ : ∃ r, r = q_law08_works_14 := ⟨_, rfl⟩; rw [← hr14]
  obtain ⟨r15, hr15⟩ : ∃ r, r = q_law08_works_15 := ⟨_, rfl⟩; rw [← hr15]
  simp -implicitDefEqProofs [q_law08_works_0, q_law08_works_1]
  intro g1
  have z58 : ∀ (Z : Heap) (g : Nat) (c : Cont), Z g = none → ∃ Z', Z' = Z.set g c ∧ Z.Sub Z' ∧ Z' g = some c := fun Z g c h => ⟨_, rfl, sub_none h, set_eq'⟩
  obtain ⟨Y1, e1, k1, y1⟩ := z58 H0 g1 (.var 53 [.int .i64 3, .int .i64 2, .int .i64 1, .int .i64 4]) rfl
  rw [← e1]; clear e1
  have p6 := w_super_Put 3 2 1 4 6
  rw [c6] at p6
  simp -implicitDefEqProofs [hr2, q_law08_works_2, y1]
  unfold supV at p6
  refine p6.call (.cons (.refl _) rfl .nil) rfl ?_
  have l6 : x6.length = 256 := is6.sec.1
  have l7 : x7.length = 256 := is7.sec.1
  have ex6 : supS 3 2 1 4 6 = x6 := rfl
  have ex7 : supS 3 2 1 4 7 = x7 := rfl
  simp -implicitDefEqProofs [ex6, l6]
  intro g2 h2
  obtain ⟨Y2, e2, k2, y2⟩ := z58 Y1 g2 (.var 54 [.iarr .u8 256 (ints x6)]) h2
  rw [← e2]; clear e2
  have y21 := k2 _ _ y1
  have q6 := w_super_Get' is6.sec
  rw [is6.sup, is6.ok] at q6
  unfold supV at q6
  simp -implicitDefEqProofs [hr3, q_law08_works_3, y2, l6]
  refine q6.call (.cons (.refl _) rfl .nil) rfl ?_
  simp -implicitDefEqProofs
  intro g4 h4
  obtain ⟨Y4, e4, k4, y4⟩ := z58 Y2 g4 (.var 58 [.int .i64 3, .int .i64 2, .int .i64 1, .int .i64 4, .int .i64 6]) h4
  rw [← e4]; clear e4
  have y41 := k4 _ _ y21
  have y42 := k4 _ _ y2
  have hz := w_super_Get' sec_z
  have gz : gSup z256 = supV 0 0 0 0 0 := by unfold gSup gF; rw [z256_none]; rfl
  rw [gz, z256_none, ints_z] at hz
  unfold supV zsec at hz
  simp -implicitDefEqProofs [hr4, q_law08_works_4]
  refine hz.call (.cons (.refl _) rfl .nil) rfl ?_
  simp -implicitDefEqProofs
  intro g6 h6
  obtain ⟨Y6, e6, k6, y6⟩ := z58 Y4 g6 (.var 58 [.int .i64 0, .int .i64 0, .int .i64 0, .int .i64 0, .int .i64 0]) h6
  try rw [← e6]
  clear e6
  have y61 := k6 _ _ y41
  have y62 := k6 _ _ y42
  have y64 := k6 _ _ y4
  have p7 := w_super_Put 3 2 1 4 7
  rw [c7] at p7
  unfold supV at p7
  simp -implicitDefEqProofs [hr5, q_law08_works_5, y61]
  refine p7.call (.cons (.refl _) rfl .nil) rfl ?_
  simp -implicitDefEqProofs [ex7, l7]
  intro g8 h8
  obtain ⟨Y8, e8, k8, y8⟩ := z58 Y6 g8 (.var 54 [.iarr .u8 256 (ints x7)]) h8
  rw [← e8]; clear e8
  have y81 := k8 _ _ y61
  have y82 := k8 _ _ y62
  have y84 := k8 _ _ y64
  have hch := w_super_Choose is6.sec is7.sec
  rw [choose67] at hch
  unfold supV at hch
  simp -implicitDefEqProofs [hr6, q_law08_works_6, y82, y8, l6, l7]
  refine hch.call (.cons (.refl _) rfl (.cons (.refl _) rfl .nil)) rfl ?_
  simp -implicitDefEqProofs
  intro g10 h10
  obtain ⟨Y, e10, k10, y10⟩ := z58 Y8 g10 (.var 58 [.int .i64 3, .int .i64 2, .int .i64 1, .int .i64 4, .int .i64 7]) h10
  rw [← e10]; clear e10
  have ya1 := k10 _ _ y81
  have ya2 := k10 _ _ y82
  have ya4 := k10 _ _ y84
  simp -implicitDefEqProofs [hr7, q_law08_works_7]
  refine w_disk_New (fun h => absurd (by decide) h) fun _ gd B hd => ?_
  simp -implicitDefEqProofs
  have hn := w_super_Bump_nil
  unfold supV at hn
  simp -implicitDefEqProofs [hr8, q_law08_works_8]
  refine hn.call (.cons (.refl _) rfl .nil) rfl ?_
  simp -implicitDefEqProofs
  intro g15 h15
  obtain ⟨B1, e15, k15, _⟩ := z58 B g15 (.var 58 [.int .i64 0, .int .i64 0, .int .i64 0, .int .i64 0, .int .i64 0]) h15
  try rw [← e15]
  clear e15
  have hd1 : DskAt Y gd d0 B1 := hd.mono k15
  simp -implicitDefEqProofs [q_law08_works_9]
  simp -implicitDefEqProofs [hr11, q_law08_works_11]
  refine w_super_Bump hd1 (by decide) (by decide) d0_read (by decide) (by decide) (.inl rfl) fun B2 hd2 => ?_
  have hd2 : DskAt Y gd d0 B2 := hd2
  rw [d0_bump]
  unfold supV
  simp -implicitDefEqProofs
  intro g17 h17
  obtain ⟨B3, e17, k17, _⟩ := z58 B2 g17 (.var 58 [.int .i64 0, .int .i64 0, .int .i64 0, .int .i64 0, .int .i64 0]) h17
  try rw [← e17]
  clear e17
  have hd3 := hd2.mono k17
  simp -implicitDefEqProofs [hr12, q_law08_works_12, hd3.sub _ _ ya2, l6]
  refine w_disk_Write hd3 (by decide) (by decide) (a := 1) (s := x6) is6.sec fun B4 hd4 => ?_
  have hd4 : DskAt Y gd d1 B4 := hd4
  simp -implicitDefEqProofs
  simp -implicitDefEqProofs [hr13, q_law08_works_13]
  refine w_super_Bump hd4 (by decide) (by decide) d1_read (by decide) (by decide) (.inr rfl) fun B5 hd5 => ?_
  rw [d1_bump] at hd5 ⊢
  unfold supV
  simp -implicitDefEqProofs
  intro g19 h19
  obtain ⟨B6, e19, k19, y19⟩ := z58 B5 g19 (.var 58 [.int .i64 3, .int .i64 2, .int .i64 1, .int .i64 4, .int .i64 7]) h19
  rw [← e19]; clear e19
  have hd6 := hd5.mono k19
  simp -implicitDefEqProofs [hr14, q_law08_works_14]
  refine w_super_Read hd6 fun B7 k7 => ?_
  have hd7 := hd6.mono k7
  have y79 := k7 _ _ y19
  rw [d2_read]
  unfold supV
  simp -implicitDefEqProofs
  intro g21 h21
  obtain ⟨B8, e21, k21, y21⟩ := z58 B7 g21 (.var 58 [.int .i64 3, .int .i64 2, .int .i64 1, .int .i64 4, .int .i64 7]) h21
  rw [← e21]; clear e21
  have hd8 := hd7.mono k21
  have y89 := k21 _ _ y79
  have w1 := hd8.sub _ _ ya1
  have w4 := hd8.sub _ _ ya4
  have w10 := hd8.sub _ _ y10
  simp -implicitDefEqProofs [hr15, q_law08_works_15, w1, w4, w10, y89, y21, supGC]
  refine w_disk_Waits hd8 ?_
  simp -implicitDefEqProofs [d2_eq, outOf]
end Go.Proofs.Ytilgdnbijkcboaa

/- The law SuperPuts. -/
namespace Go.Proofs.Ytilgdnbijkcboaa
open Go AVL
attribute [-simp] AV.isAgg aappI aapp alen List.reduceReplicate
attribute [simp] shp good comps
set_option linter.unusedVariables false
set_option linter.unusedSimpArgs false
set_option maxRecDepth 8000

theorem fresh_set {Z : Heap} {g : Nat} (c : Cont) (h : Z g = none) : ∃ Z', Z' = Z.set g c ∧ Z.Sub Z' ∧ Z' g = some c := ⟨_, rfl, sub_none h, set_eq'⟩
theorem w_SuperPuts (s t c u m : Int) {a b : List Nat} (ha : Sec a) (hb : Sec b) : Gives Try.prog F_law08_SuperPuts [planV s t c u, .int .i64 m, .iarr .u8 256 (ints a), .iarr .u8 256 (ints b)] (.bool true) := by
  refine v_law08_SuperPuts (by simp) ?_
  unfold a_law08_SuperPuts planV
  obtain ⟨r2, hr2⟩ : ∃ r, r = q_law08_SuperPuts_2 := ⟨_, rfl⟩; rw [← hr2]
  obtain ⟨r3, hr3⟩ : ∃ r, r = q_law08_SuperPuts_3 := ⟨_, rfl⟩; rw [← hr3]
  obtain ⟨r4, hr4⟩ : ∃ r, r = q_law08_SuperPuts_4 := ⟨_, rfl⟩; rw [← hr4]
  obtain ⟨r5, hr5⟩ : ∃ r, r = q_law08_SuperPuts_5 := ⟨_, rfl⟩; rw [← hr5]
  obtain ⟨r6, hr6⟩ : ∃ r, r = q_law08_SuperPuts_6 := ⟨_, rfl⟩; rw [← hr6]
  obtain ⟨r7, hr7⟩ : ∃ r, r = q_law08_SuperPuts_7 := ⟨_, rfl⟩; rw [← hr7]
  have la := ha.1
  have lb := hb.1
  have hP := w_super_Put s t c u m
  have hP' := w_ref08_Put s t c u m
  obtain ⟨S, hS⟩ : ∃ S, S = supS s t c u m := ⟨_, rfl⟩
  obtain ⟨k, hk⟩ : ∃ k, k = supC s t c u m := ⟨_, rfl⟩
  have hSl : S.length = 256 := by rw [hS]; exact (supS_sec _ _ _ _ _).1
  rw [← hS, ← hk] at hP hP'
  clear hS hk
  have hG := w_super_Get' ha
  have hG' := w_ref08_Get' ha
  obtain ⟨n1, n2, n3, n4, n5, hn⟩ : ∃ n1 n2 n3 n4 n5, gSup a = supV n1 n2 n3 n4 n5 := ⟨_, _, _, _, _, rfl⟩
  obtain ⟨l, hl⟩ : ∃ l, l = supGC (supO a) := ⟨_, rfl⟩
  rw [hn, ← hl] at hG hG'
  clear hn hl
  have hC := w_super_Choose ha hb
  have hC' := w_ref08_Choose ha hb
  obtain ⟨o1, o2, o3, o4, o5, w, e, ho, _⟩ := chG_parts a b
  rw [ho] at hC hC'
  clear ho
  unfold supV at hP hP' hG hG' hC hC'
  simp -implicitDefEqProofs [q_law08_SuperPuts_0, la, lb]
  intro g1 g2 x1 x2 g3 x3 x4 x5 x6
  obtain ⟨Y, hY⟩ : ∃ Y, Y = ((H0.set g1 (.var 53 [.int .i64 s, .int .i64 t, .int .i64 c, .int .i64 u])).set g2 (.var 54 [.iarr .u8 256 (ints a)])).set g3 (.var 54 [.iarr .u8 256 (ints b)]) := ⟨_, rfl⟩
  try simp only [← hY]
  have y1 : Y g1 = some (.var 53 [.int .i64 s, .int .i64 t, .int .i64 c, .int .i64 u]) := by rw [hY]; simp [*]
  have y2 : Y g2 = some (.var 54 [.iarr .u8 256 (ints a)]) := by rw [hY]; simp [*]
  have y3 : Y g3 = some (.var 54 [.iarr .u8 256 (ints b)]) := by rw [hY]; simp [*]
  clear hY x1 x2 x3 x4 x5 x6
  simp -implicitDefEqProofs [q_law08_SuperPuts_1, y1]
  refine hP.call (.cons (.refl _) rfl .nil) rfl ?_
  simp -implicitDefEqProofs [hSl]
  intro g9 h9
  obtain ⟨Y9, e9, k9, y9⟩ := fresh_set (.var 54 [.iarr .u8 256 (ints S)]) h9
  rw [← e9]; clear e9
  simp -implicitDefEqProofs [hr2, q_law08_SuperPuts_2, k9 _ _ y1]
  refine hP'.call (.cons (.refl _) rfl .nil) rfl ?_
  simp -implicitDefEqProofs [hSl]
  intro g11 h11
  obtain ⟨Y11, e11, k11, y11⟩ := fresh_set (.var 54 [.iarr .u8 256 (ints S)]) h11
  rw [← e11]; clear e11
  have s11 : Y.Sub Y11 := sub_tr k9 k11
  simp -implicitDefEqProofs [hr3, q_law08_SuperPuts_3, s11 _ _ y2, la]
  refine hG.call (.cons (.refl _) rfl .nil) rfl ?_
  simp -implicitDefEqProofs
  intro g13 h13
  obtain ⟨Y13, e13, k13, y13⟩ := fresh_set (.var 58 [.int .i64 n1, .int .i64 n2, .int .i64 n3, .int .i64 n4, .int .i64 n5]) h13
  rw [← e13]; clear e13
  have s13 : Y.Sub Y13 := sub_tr s11 k13
  simp -implicitDefEqProofs [hr4, q_law08_SuperPuts_4, s13 _ _ y2, la]
  refine hG'.call (.cons (.refl _) rfl .nil) rfl ?_
  simp -implicitDefEqProofs
  intro g15 h15
  obtain ⟨Y15, e15, k15, y15⟩ := fresh_set (.var 60 [.int .i64 n1, .int .i64 n2, .int .i64 n3, .int .i64 n4, .int .i64 n5]) h15
  rw [← e15]; clear e15
  have s15 : Y.Sub Y15 := sub_tr s13 k15
  simp -implicitDefEqProofs [hr5, q_law08_SuperPuts_5, s15 _ _ y2, s15 _ _ y3, la, lb]
  refine hC.call (.cons (.refl _) rfl (.cons (.refl _) rfl .nil)) rfl ?_
  simp -implicitDefEqProofs
  intro g17 h17
  obtain ⟨Y17, e17, k17, y17⟩ := fresh_set (.var 58 [.int .i64 o1, .int .i64 o2, .int .i64 o3, .int .i64 o4, .int .i64 o5]) h17
  rw [← e17]; clear e17
  have s17 : Y.Sub Y17 := sub_tr s15 k17
  simp -implicitDefEqProofs [hr6, q_law08_SuperPuts_6, s17 _ _ y2, s17 _ _ y3, la, lb]
  refine hC'.call (.cons (.refl _) rfl (.cons (.refl _) rfl .nil)) rfl ?_
  simp -implicitDefEqProofs
  intro g20 h20
  obtain ⟨Y20, e20, k20, y20⟩ := fresh_set (.var 60 [.int .i64 o1, .int .i64 o2, .int .i64 o3, .int .i64 o4, .int .i64 o5]) h20
  rw [← e20]; clear e20
  have z17 := k20 _ _ y17
  have z15 := k20 _ _ (k17 _ _ y15)
  have z13 := k20 _ _ (k17 _ _ (k15 _ _ y13))
  have z11 := k20 _ _ (k17 _ _ (k15 _ _ (k13 _ _ y11)))
  have z9 := k20 _ _ (k17 _ _ (k15 _ _ (k13 _ _ (k11 _ _ y9))))
  have hq : eqI 256 (ints S) (ints S) = true := by rw [eqB hSl hSl]; exact decide_eq_true rfl
  simp -implicitDefEqProofs [hr7, q_law08_SuperPuts_7, z9, z11, z13, z15, z17, y20, hSl, hq]
  refine w_law08_works.call .nil rfl ?_
  simp -implicitDefEqProofs [outOf]
end Go.Proofs.Ytilgdnbijkcboaa

/- The law SuperBack. -/
namespace Go.Proofs.Ytilgdnbijkcboaa
open Go AVL
attribute [-simp] AV.isAgg aappI aapp alen List.reduceReplicate
attribute [simp] shp good comps
set_option linter.unusedVariables false
set_option linter.unusedSimpArgs false
set_option maxRecDepth 8000

theorem steps_nought : ∀ n, steps n 0 = 0
  | 0 => rfl
  | n + 1 => steps_nought n
/-- Bytes with the first k bits of a mask in them. -/
structure Turned (s0 : List Nat) (n m k : Nat) (s : List Nat) : Prop where
  sec : Sec s
  reg : reg 4294967295 s = reg 4294967295 s0 ^^^ steps (2048 - n) (m % 2 ^ k)
theorem Turned.zero {s0 : List Nat} {n m : Nat} (h : Sec s0) : Turned s0 n m 0 s0 := ⟨h, by simp [Nat.mod_one, steps_nought]⟩
theorem Turned.off {s0 s : List Nat} {n m k : Nat} (h : Turned s0 n m k s) (hb : ¬ m / 2 ^ k % 2 = 1) : Turned s0 n m (k + 1) s := ⟨h.sec, by rw [mask_step, if_neg hb]; exact h.reg⟩
theorem Turned.on {s0 s : List Nat} {n m k : Nat} (h : Turned s0 n m k s) (hb : m / 2 ^ k % 2 = 1) (hk : n + k < 2048) : Turned s0 n m (k + 1) (s.set ((n + k) / 8) (s[(n + k) / 8]?.getD 0 ^^^ 2 ^ ((n + k) % 8))) := by
  have hl := h.sec.1
  have hlt : (n + k) / 8 < s.length := by omega
  have hv : s[(n + k) / 8]?.getD 0 < 256 := by rw [List.getElem?_eq_getElem hlt]; exact h.sec.2 _ (List.getElem_mem hlt)
  have hp : 2 ^ ((n + k) % 8) < 256 := by
    have : 2 ^ ((n + k) % 8) ≤ 2 ^ 7 := Nat.pow_le_pow_right (by decide) (by omega)
    omega
  refine ⟨⟨by simpa using hl, fun y hy => ?_⟩, ?_⟩
  · rcases List.mem_or_eq_of_mem_set hy with h1 | h1
    · exact h.sec.2 y h1
    · subst h1; exact Nat.xor_lt_two_pow (n := 8) hv hp
  · rw [reg_flip 4294967295 s (n + k) (by omega), h.reg, mask_step, if_pos hb, steps_xor, Nat.xor_assoc]
    congr 2
    have e : steps (2048 - n) (2 ^ k) = steps (k + (2048 - (n + k))) (2 ^ k) := by congr 1; omega
    have p := steps_pow k 1
    rw [Nat.mul_one] at p
    rw [e, steps_add, p, hl]
theorem Turned.bad {s0 s : List Nat} {n m : Nat} (h : Turned s0 n m 32 s) (h0 : Sec s0) (hh : holdsN s0 = true) (hm : m < 4294967296) (hm0 : m ≠ 0) : supO s = false := by
  have hr := h.reg
  rw [Nat.mod_eq_of_lt (by omega)] at hr
  have := burst h0.2 h.sec.2 hh hm0 hm hr
  unfold supO
  rw [this]; rfl
structure BackI (g9 n m : Nat) (s0 : List Nat) (p : Nat × List Nat) (env : AEnv) (B : Heap) : Prop where
  lek : p.1 ≤ 32
  tu : Turned s0 n m p.1 p.2
  e3 : env 3 = .int .u32 m
  e9 : env 9 = .ptr g9 0
  e13 : env 13 = .int .i64 n
  e14 : env 14 = .int .i64 p.1
  b9 : B g9 = some (.var 54 [.iarr .u8 256 (ints p.2)])
theorem w_SuperBack (s t c u m : Int) (at' mask : Nat) (hat : at' < 65536) (hmask : mask < 4294967296) : Gives Try.prog F_law08_SuperBack [planV s t c u, .int .i64 m, .int .u16 at', .int .u32 mask] (.bool true) := by
  refine v_law08_SuperBack (by simp) ?_
  unfold a_law08_SuperBack planV
  obtain ⟨r4, hr4⟩ : ∃ r, r = q_law08_SuperBack_4 := ⟨_, rfl⟩; rw [← hr4]
  obtain ⟨r5, hr5⟩ : ∃ r, r = q_law08_SuperBack_5 := ⟨_, rfl⟩; rw [← hr5]
  obtain ⟨r7, hr7⟩ : ∃ r, r = q_law08_SuperBack_7 := ⟨_, rfl⟩; rw [← hr7]
  obtain ⟨r9, hr9⟩ : ∃ r, r = q_law08_SuperBack_9 := ⟨_, rfl⟩; rw [← hr9]
  obtain ⟨r15, hr15⟩ : ∃ r, r = q_law08_SuperBack_15 := ⟨_, rfl⟩; rw [← hr15]
  obtain ⟨r16, hr16⟩ : ∃ r, r = q_law08_SuperBack_16 := ⟨_, rfl⟩; rw [← hr16]
  have hP := w_super_Put s t c u m
  unfold supV at hP
  have hSl := (supS_sec s t c u m).1
  simp -implicitDefEqProofs [q_law08_SuperBack_0]
  intro g4
  obtain ⟨Y, e1, k1, y1⟩ := fresh_set (Z := H0) (g := g4) (.var 53 [.int .i64 s, .int .i64 t, .int .i64 c, .int .i64 u]) rfl
  rw [← e1]; clear e1
  simp -implicitDefEqProofs [q_law08_SuperBack_1, y1]
  refine hP.call (.cons (.refl _) rfl .nil) rfl ?_
  simp -implicitDefEqProofs [hSl]
  intro g9 h9
  obtain ⟨Y9, e9, k9, y9⟩ := fresh_set (.var 54 [.iarr .u8 256 (ints (supS s t c u m))]) h9
  rw [← e9]; clear e9
  have y91 := k9 _ _ y1
  by_cases hc0 : supC s t c u m = 0
  · obtain ⟨hp, hm0, hm1⟩ := supC_plan hc0
    obtain ⟨⟨s1, s2⟩, ⟨t1, t2⟩, ⟨c1, c2⟩, ⟨a1, a2⟩⟩ := id hp
    have hI : IsSup (supS s t c u m) s.toNat t.toNat c.toNat u.toNat m.toNat := by
      have := isSup' (s := s.toNat) (t := t.toNat) (c := c.toNat) (a := u.toNat) (n := m.toNat) (by
        rw [Int.toNat_of_nonneg (by omega), Int.toNat_of_nonneg (by omega), Int.toNat_of_nonneg (by omega), Int.toNat_of_nonneg (by omega)]; exact hp) (by omega)
      rwa [Int.toNat_of_nonneg (by omega), Int.toNat_of_nonneg (by omega), Int.toNat_of_nonneg (by omega), Int.toNat_of_nonneg (by omega), Int.toNat_of_nonneg (by omega)] at this
    have hG := w_super_Get' hI.sec
    have hh : holdsN (supS s t c u m) = true := by
      have := hI.ok
      unfold supO at this
      simp only [Bool.and_eq_true] at this
      exact this.1
    rw [hI.sup, hI.ok, Int.toNat_of_nonneg (by omega), Int.toNat_of_nonneg (by omega), Int.toNat_of_nonneg (by omega), Int.toNat_of_nonneg (by omega), Int.toNat_of_nonneg (by omega)] at hG
    have hs0 := hI.sec
    clear hI
    obtain ⟨S, hS⟩ : ∃ S, S = supS s t c u m := ⟨_, rfl⟩
    rw [← hS] at hG hh hs0 y9 hSl
    clear hS
    rw [hc0]
    unfold supV at hG
    simp -implicitDefEqProofs [q_law08_SuperBack_2]
    simp -implicitDefEqProofs [hr4, q_law08_SuperBack_4, y9, hSl]
    refine hG.call (.cons (.refl _) rfl .nil) rfl ?_
    simp -implicitDefEqProofs
    intro g11 h11
    obtain ⟨Y11, e11, k11, y11⟩ := fresh_set (.var 58 [.int .i64 s, .int .i64 t, .int .i64 c, .int .i64 u, .int .i64 m]) h11
    rw [← e11]; clear e11
    have z1 := k11 _ _ y91
    have z9 := k11 _ _ y9
    simp -implicitDefEqProofs [hr5, q_law08_SuperBack_5, z1, y11, supGC]
    by_cases hm : mask = 0
    · subst hm
      simp -implicitDefEqProofs [hr7, q_law08_SuperBack_7, q_law08_SuperBack_8]
      refine w_law08_works.call .nil rfl ?_
      simp -implicitDefEqProofs [outOf]
    · have hm' : ¬ ((mask : Int) = 0) := by omega
      have e3 : IntKind.i64.wrap (at' : Int) = at' := wrap_i64 (by omega)
      have e4 : (at' : Int).tmod 2017 = ((at' % 2017 : Nat) : Int) := rfl
      obtain ⟨n, hn⟩ : ∃ n, n = at' % 2017 := ⟨_, rfl⟩
      have hnL : n < 2017 := by omega
      rw [← hn] at e4
      clear hn
      simp -implicitDefEqProofs [hr7, q_law08_SuperBack_7, hm, hm']
      simp -implicitDefEqProofs [hr9, q_law08_SuperBack_9, q_law08_SuperBack_10, e3, e4]
      refine X_lp (BackI g9 n mask S) (fun p => 32 - p.1) (0, S) ⟨by simp, Turned.zero hs0, by simp, by simp, by simp, by simp, z9⟩ ?_
      rintro ⟨k, x⟩ env B ⟨lek, tu, f3, f9, f13, f14, b9⟩
      simp only at lek tu f14 b9
      have hxl := tu.sec.1
      rw [q_law08_SuperBack_L15]
      simp -implicitDefEqProofs [q_law08_SuperBack_11, f14]
      refine ⟨fun hk => ?_, fun hk => ?_⟩
      · have k1 : IntKind.u64.wrap (k : Int) = k := wrap_u64 (by omega)
        have k2 : shrI .u32 (mask : Int) (k : Int) = ((mask / 2 ^ k : Nat) : Int) := by rw [shrI_nat]; congr 3; simp [IntKind.bits]; omega
        have k3 : bAnd .u32 ((mask / 2 ^ k : Nat) : Int) 1 = ((mask / 2 ^ k % 2 : Nat) : Int) := by
          have := bAnd_nat (k := .u32) rfl (a := mask / 2 ^ k) (by have := Nat.div_le_self mask (2 ^ k); simp [IntKind.bits]; omega) (b := 1) (by decide)
          rw [Nat.and_one_is_mod] at this; exact this
        have k4 : IntKind.i64.wrap ((k : Int) + 1) = ((k + 1 : Nat) : Int) := by rw [wrap_i64 (by omega)]; simp
        simp -implicitDefEqProofs [q_law08_SuperBack_12, f3, f14, k1, k2, k3, -Int.natCast_emod, -Int.natCast_ediv, -Int.natCast_pow]
        refine ⟨fun hb => ?_, fun hb => ?_⟩
        · have hb' : mask / 2 ^ k % 2 = 1 := by omega
          have ht := tu.on hb' (by omega)
          obtain ⟨y, hy⟩ : ∃ y, y = n + k := ⟨_, rfl⟩
          have hyL : y < 2048 := by omega
          have g1 : IntKind.i64.wrap ((n : Int) + (k : Int)) = (y : Int) := by rw [wrap_i64 (by omega)]; omega
          rw [← hy] at ht
          have g2 : (y : Int).tdiv 8 = ((y / 8 : Nat) : Int) := rfl
          have g3 : (y : Int).tmod 8 = ((y % 8 : Nat) : Int) := rfl
          have g4 : IntKind.i64.wrap ((y / 8 : Nat) : Int) = ((y / 8 : Nat) : Int) := wrap_i64 (by omega)
          have g5 : IntKind.u64.wrap ((y % 8 : Nat) : Int) = ((y % 8 : Nat) : Int) := wrap_u64 (by omega)
          have hp : 2 ^ (y % 8) < 256 := by
            have : 2 ^ (y % 8) ≤ 2 ^ 7 := Nat.pow_le_pow_right (by decide) (by omega)
            omega
          have g6 : shlI .u8 1 ((y % 8 : Nat) : Int) = ((2 ^ (y % 8) : Nat) : Int) := by
            have hm : min (y % 8) IntKind.u8.bits = y % 8 := by simp [IntKind.bits]; omega
            unfold shlI
            rw [Int.toNat_natCast, hm, Int.one_mul]
            have : ((2 : Int) ^ (y % 8)) = ((2 ^ (y % 8) : Nat) : Int) := by norm_cast
            rw [this]
            exact wrap_u8 ⟨Int.natCast_nonneg _, Int.ofNat_lt.2 hp⟩
          have hlt : y / 8 < x.length := by omega
          obtain ⟨v, hv⟩ : ∃ v, v = x[y / 8]?.getD 0 := ⟨_, rfl⟩
          have hvb : v < 256 := by rw [hv, List.getElem?_eq_getElem hlt]; exact tu.sec.2 _ (List.getElem_mem hlt)
          rw [← hv] at ht
          have g7 : bXor .u8 ((v : Nat) : Int) ((2 ^ (y % 8) : Nat) : Int) = ((v ^^^ 2 ^ (y % 8) : Nat) : Int) := bXor_nat rfl (by simpa [IntKind.bits] using hvb) (by simpa [IntKind.bits] using hp)
          obtain ⟨q, hq⟩ : ∃ q, q = 2 ^ (y % 8) := ⟨_, rfl⟩
          obtain ⟨w, hw⟩ : ∃ w, w = v ^^^ q := ⟨_, rfl⟩
          rw [← hq] at g6 g7 ht
          rw [← hw] at g7 ht
          obtain ⟨d, hd⟩ : ∃ d, d = y / 8 := ⟨_, rfl⟩
          obtain ⟨e, he⟩ : ∃ e, e = y % 8 := ⟨_, rfl⟩
          rw [← hd] at g2 g4 hv ht hlt
          rw [← he] at g3 g5 g6
          have g8 : (d : Int) < 256 := by omega
          have g9' : (0 : Int) ≤ (e : Int) := by omega
          simp -implicitDefEqProofs [q_law08_SuperBack_13, f3, f9, f13, f14, b9, hxl, g1, g2, g3, g4, g5, g8, g9', ← hv]
          simp -implicitDefEqProofs [g6, g7]
          simp -implicitDefEqProofs [q_law08_SuperBack_14, f14, k4, -Int.natCast_add]
          refine lp_next (k + 1, x.set d w) ⟨by simp only; omega, ht, by simp [f3], by simp [f9], by simp [f13], by simp, ?_⟩ (by simp only; omega)
          simp [b9, ints_set]
        · have hb' : ¬ mask / 2 ^ k % 2 = 1 := by omega
          simp -implicitDefEqProofs [q_law08_SuperBack_14, f14, k4, -Int.natCast_add]
          exact lp_next (k + 1, x) ⟨by simp only; omega, tu.off hb', by simp [f3], by simp [f9], by simp [f13], by simp, b9⟩ (by simp only; omega)
      · have hk2 : k = 32 := by omega
        subst hk2
        have hno : supO x = false := tu.bad hs0 hh (by omega) hm
        have hG2 := w_super_Get' tu.sec
        have hg0 : gSup x = supV 0 0 0 0 0 := by unfold gSup gF; rw [hno]; rfl
        rw [hno, hg0] at hG2
        unfold supV supGC at hG2
        simp -implicitDefEqProofs [hr15, q_law08_SuperBack_15, f9, b9, hxl]
        refine hG2.call (.cons (.refl _) rfl .nil) rfl ?_
        simp -implicitDefEqProofs
        intro g15 h15
        simp -implicitDefEqProofs [hr16, q_law08_SuperBack_16]
        refine w_law08_works.call .nil rfl ?_
        simp -implicitDefEqProofs [outOf]
  · simp -implicitDefEqProofs [q_law08_SuperBack_2, q_law08_SuperBack_3, hc0]
    refine w_law08_works.call .nil rfl ?_
    simp -implicitDefEqProofs [outOf]
end Go.Proofs.Ytilgdnbijkcboaa

/- The law SuperBumps. -/
namespace Go.Proofs.Ytilgdnbijkcboaa
open Go AVL
attribute [-simp] AV.isAgg aappI aapp alen List.reduceReplicate
attribute [simp] shp good comps
set_option linter.unusedVariables false
set_option linter.unusedSimpArgs false
set_option maxRecDepth 8000

theorem bmp_sup (D : Dsk) (s t c u m w k : Int) : ∃ a1 a2 a3 a4 a5, (bmp D s t c u m w k).2.1 = supV a1 a2 a3 a4 a5 := by
  unfold bmp
  generalize (if D.inside (1 - w) then codeOf D.ok else 2) = e1
  generalize (if D.inside (1 - w) then D.write (1 - w).toNat (supS s t c u (m + 1)) else D) = D1
  by_cases h1 : k ≠ 0
  · rw [if_pos h1]; exact ⟨_, _, _, _, _, rfl⟩
  · rw [if_neg h1]
    by_cases h2 : supC s t c u (m + 1) ≠ 0
    · rw [if_pos h2]; exact ⟨_, _, _, _, _, rfl⟩
    · rw [if_neg h2]
      by_cases h3 : e1 ≠ 0
      · rw [if_pos h3]; exact ⟨_, _, _, _, _, rfl⟩
      · rw [if_neg h3]
        by_cases h4 : codeOf D1.ok ≠ 0
        · rw [if_pos h4]; exact ⟨_, _, _, _, _, rfl⟩
        · rw [if_neg h4]; exact ⟨_, _, _, _, _, rfl⟩
/-- What a round leaves. -/
theorem Two.round {D : Dsk} {s t c a n w f : Nat} (h : Two D s t c a n w) (hn : n + 1 ≤ 1099511627776) (hf : f < 4) (b : Bool) {R : Dsk × AV × Int} (hR : R = bmp (D.setFuse f) s t c a n w 0) :
    ∃ n' w', Two (R.1.crash [b]) s t c a n' w' ∧ (n' = n ∨ n' = n + 1) ∧ (R.2.2 = 0 → n' = n + 1) ∧ R.1.wait.length ≤ 1 ∧ (R.1.crash [b]).steps ≤ D.steps + 2 := by
  obtain ⟨h1, h2, h3, h4⟩ := h.bump hn hf b hR
  by_cases h0 : R.2.2 = 0
  · exact ⟨_, _, h2 h0, .inr rfl, fun _ => rfl, h3, h4⟩
  · rcases h1 with h1 | h1
    · exact ⟨_, _, h1, .inl rfl, fun h => absurd h h0, h3, h4⟩
    · exact ⟨_, _, h1, .inr rfl, fun _ => rfl, h3, h4⟩
structure BmS where
  i : Nat
  D : Dsk
  n : Nat
  w : Nat
structure BmI (A : Heap) (gd g4 : Nat) (s t c a m : Nat) (fs : List Nat) (ks : List Bool) (p : BmS) (env : AEnv) (B : Heap) : Prop where
  lei : p.i ≤ fs.length
  two : Two p.D s t c a p.n p.w
  len : p.n ≤ m + p.i
  st : p.D.steps ≤ 2 + 2 * p.i
  dat : DskAt A gd p.D B
  e2 : env 2 = .isl .u8 (ints fs)
  e3 : env 3 = .dsl 1 (bls ks)
  e4 : env 4 = .ptr g4 0
  e11 : env 11 = .ptr gd 0
  e13 : env 13 = .int .i64 p.n
  e14 : env 14 = .int .i64 p.i
def dS (S : List Nat) : Dsk := ⟨(List.replicate 9 z256).set 0 S, [], 2, -1, false⟩
theorem dS_eq (S : List Nat) : (((Dsk.fresh 9).write 0 S).flush) = dS S := rfl
theorem dS_two {S : List Nat} {s t c a n : Nat} (h : IsSup S s t c a n) : Two (dS S) s t c a n 0 := ⟨⟨rfl, rfl, by simp [dS]⟩, by decide, h, .inl z256_none⟩
theorem w_SuperBumps (s t c u m : Int) (fs : List Nat) (ks : List Bool) (hfs : Bytes fs) (hks : ks.length < 2 ^ 63) : Gives Try.prog F_law08_SuperBumps [planV s t c u, .int .i64 m, .isl .u8 (ints fs), .dsl 1 (bls ks)] (.bool true) := by
  refine v_law08_SuperBumps (by simp) ?_
  unfold a_law08_SuperBumps planV
  obtain ⟨r3, hr3⟩ : ∃ r, r = q_law08_SuperBumps_3 := ⟨_, rfl⟩; rw [← hr3]
  obtain ⟨r4, hr4⟩ : ∃ r, r = q_law08_SuperBumps_4 := ⟨_, rfl⟩; rw [← hr4]
  obtain ⟨r5, hr5⟩ : ∃ r, r = q_law08_SuperBumps_5 := ⟨_, rfl⟩; rw [← hr5]
  obtain ⟨r7, hr7⟩ : ∃ r, r = q_law08_SuperBumps_7 := ⟨_, rfl⟩; rw [← hr7]
  obtain ⟨r9, hr9⟩ : ∃ r, r = q_law08_SuperBumps_9 := ⟨_, rfl⟩; rw [← hr9]
  have works : ∀ (env : AEnv) (C : Heap) , XO Try.prog (fin [ARes.tmp 8] (.bool true)) q_law08_SuperBumps_2 (.thn .ret .done) env C := fun env C => by
    simp -implicitDefEqProofs [q_law08_SuperBumps_2]
    refine w_law08_works.call .nil rfl ?_
    simp -implicitDefEqProofs [outOf]
  simp -implicitDefEqProofs [q_law08_SuperBumps_0]
  intro g4
  obtain ⟨Y, e1, k1, y1⟩ := fresh_set (Z := H0) (g := g4) (.var 53 [.int .i64 s, .int .i64 t, .int .i64 c, .int .i64 u]) rfl
  rw [← e1]; clear e1
  by_cases hm : 1073741824 < m
  · simp -implicitDefEqProofs [q_law08_SuperBumps_1, hm]
    exact works _ _
  · by_cases hl : (40 : Int) < (fs.length : Int)
    · simp -implicitDefEqProofs [q_law08_SuperBumps_1, hm, hl]
      exact works _ _
    · have hP := w_super_Put s t c u m
      unfold supV at hP
      have hSl := (supS_sec s t c u m).1
      simp -implicitDefEqProofs [q_law08_SuperBumps_1, hm, hl]
      simp -implicitDefEqProofs [hr3, q_law08_SuperBumps_3, y1]
      refine hP.call (.cons (.refl _) rfl .nil) rfl ?_
      simp -implicitDefEqProofs [hSl]
      intro g9 h9
      obtain ⟨Y9, e9, k9, y9⟩ := fresh_set (.var 54 [.iarr .u8 256 (ints (supS s t c u m))]) h9
      rw [← e9]; clear e9
      have y91 := k9 _ _ y1
      simp -implicitDefEqProofs [hr4, q_law08_SuperBumps_4]
      refine w_disk_New (fun h => absurd (by decide) h) fun _ gd B hd => ?_
      have hd : DskAt Y9 gd (Dsk.fresh 9) B := hd
      simp -implicitDefEqProofs [hr5, q_law08_SuperBumps_5]
      by_cases hc0 : supC s t c u m = 0
      · obtain ⟨hp, hm0, hm1⟩ := supC_plan hc0
        obtain ⟨⟨s1, s2⟩, ⟨t1, t2⟩, ⟨c1, c2⟩, ⟨a1, a2⟩⟩ := id hp
        obtain ⟨s, rfl⟩ : ∃ m : Nat, s = m := ⟨s.toNat, by omega⟩
        obtain ⟨t, rfl⟩ : ∃ m : Nat, t = m := ⟨t.toNat, by omega⟩
        obtain ⟨c, rfl⟩ : ∃ m : Nat, c = m := ⟨c.toNat, by omega⟩
        obtain ⟨u, rfl⟩ : ∃ m : Nat, u = m := ⟨u.toNat, by omega⟩
        obtain ⟨m, rfl⟩ : ∃ n : Nat, m = n := ⟨m.toNat, by omega⟩
        have hI := isSup' (n := m) hp (by omega)
        obtain ⟨S, hS⟩ : ∃ S, S = supS s t c u m := ⟨_, rfl⟩
        rw [← hS] at hI y9 hSl
        clear hS
        simp -implicitDefEqProofs [hc0]
        simp -implicitDefEqProofs [hr7, q_law08_SuperBumps_7, hd.sub _ _ y9, hSl]
        refine w_disk_Write hd (by decide) (by decide) (a := 0) (s := S) hI.sec fun B1 hd1 => ?_
        have hd1 : DskAt Y9 gd ((Dsk.fresh 9).write 0 S) B1 := hd1
        have ec : (if Dsk.inside (Dsk.fresh 9) 0 then codeOf (Dsk.fresh 9).ok else 2) = 0 := rfl
        simp -implicitDefEqProofs [ec]
        refine w_disk_Flush hd1 (by show 1 < _; decide) (by show 1 < _; decide) fun B2 hd2 => ?_
        have ec2 : codeOf ((Dsk.fresh 9).write 0 S).ok = 0 := rfl
        rw [ec2]
        rw [dS_eq] at hd2
        have hd2 := hd2.base k9
        simp -implicitDefEqProofs
        simp -implicitDefEqProofs [hr9, q_law08_SuperBumps_9, q_law08_SuperBumps_10]
        clear hd hd1
        refine X_lp (BmI Y gd g4 s t c u m fs ks) (fun p => fs.length - p.i) ⟨0, dS S, m, 0⟩ ⟨by simp, dS_two hI, by simp, by simp [dS], hd2, by simp, by simp, by simp, by simp, by simp, by simp⟩ ?_
        rintro ⟨i, D, n, w⟩ env C ⟨lei, two, len, st, dat, f2, f3, f4, f11, f13, f14⟩
        simp only at lei two len st dat f13 f14
        rw [q_law08_SuperBumps_L20]
        simp -implicitDefEqProofs [q_law08_SuperBumps_11, f2, f14]
        refine ⟨fun hlt => ?_, fun hge => ?_⟩
        · have hlt' : i < fs.length := by omega
          obtain ⟨f, hf⟩ : ∃ f, f = fs[i] := ⟨_, rfl⟩
          have hfb : f < 256 := by rw [hf]; exact hfs _ (List.getElem_mem hlt')
          have v1 : IntKind.i64.wrap (f : Int) = (f : Int) := wrap_i64 (by omega)
          have v2 : (f : Int).tmod 4 = ((f % 4 : Nat) : Int) := rfl
          obtain ⟨q, hq⟩ : ∃ q, q = f % 4 := ⟨_, rfl⟩
          have hq4 : q < 4 := by omega
          rw [← hq] at v2
          obtain ⟨r13, hr13⟩ : ∃ r, r = q_law08_SuperBumps_13 := ⟨_, rfl⟩; rw [← hr13]
          obtain ⟨r14, hr14⟩ : ∃ r, r = q_law08_SuperBumps_14 := ⟨_, rfl⟩; rw [← hr14]
          obtain ⟨r15, hr15⟩ : ∃ r, r = q_law08_SuperBumps_15 := ⟨_, rfl⟩; rw [← hr15]
          obtain ⟨r16, hr16⟩ : ∃ r, r = q_law08_SuperBumps_16 := ⟨_, rfl⟩; rw [← hr16]
          obtain ⟨r18, hr18⟩ : ∃ r, r = q_law08_SuperBumps_18 := ⟨_, rfl⟩; rw [← hr18]
          obtain ⟨r19, hr19⟩ : ∃ r, r = q_law08_SuperBumps_19 := ⟨_, rfl⟩; rw [← hr19]
          simp -implicitDefEqProofs [q_law08_SuperBumps_12, f2, f11, f14, ← hf, v1, v2, hlt, hlt']
          refine w_disk_Fuse dat (n := q) (by omega) fun C1 dat1 => ?_
          simp -implicitDefEqProofs
          simp -implicitDefEqProofs [hr13, q_law08_SuperBumps_13, f11]
          have two1 : Two (D.setFuse q) s t c u n w := two.same two.rest.wait two.rest.down rfl
          have hwl1 : (D.setFuse q).wait.length < 2 ^ 31 := by rw [two1.rest.wait]; decide
          have hst1 : (D.setFuse q).steps < 2 ^ 61 := by show D.steps < _; omega
          have hw2 := two.lew
          refine w_super_Bump dat1 hst1 hwl1 two1.read (by omega) (by omega) (by omega) fun C2 dat2 => ?_
          obtain ⟨R, hR⟩ : ∃ R, R = bmp (D.setFuse q) s t c u n w 0 := ⟨_, rfl⟩
          obtain ⟨b1, b2, b3, b4, b5, hb⟩ := bmp_sup (D.setFuse q) s t c u n w 0
          rw [← hR] at dat2 hb ⊢
          rw [hb]
          unfold supV
          simp -implicitDefEqProofs
          intro g15 h15
          obtain ⟨C3, e15, k15, _⟩ := fresh_set (.var 58 [.int .i64 b1, .int .i64 b2, .int .i64 b3, .int .i64 b4, .int .i64 b5]) h15
          rw [← e15]; clear e15
          have dat3 := dat2.mono k15
          obtain ⟨e, he⟩ : ∃ e, e = R.2.2 := ⟨_, rfl⟩
          rw [← he]
          have tail : ∀ (kb : Bool) (env' : AEnv), env' 11 = .ptr gd 0 → env' 13 = .int .i64 n → env' 14 = .int .i64 i → env' 2 = .isl .u8 (ints fs) → env' 3 = .dsl 1 (bls ks) → env' 4 = .ptr g4 0 → env' 16 = .int .i64 e → ∀ (Kp : AV → Heap → Prop) (gk : Nat), C3 gk = none →
              SimX Try.prog F_Pdisk_Disk_Crash [AV.ptr gd 0, AV.own gk 0 1] (C3.set gk (Cont.row 4 1 [AV.bool kb])) (outK (KV Try.prog (lp Try.prog (fin [ARes.tmp 8] (AV.bool true)) (Kt.blk 0 (Kt.thn ((ACode.region q_law08_SuperBumps_20).seq ACode.ret) Kt.done)) (BmI Y gd g4 s t c u m fs ks) (fun p => fs.length - p.i) { i := i, D := D, n := n, w := w }) (some 91) [] (Kt.thn ((ACode.region r15).seq (((ACode.region r16).seq (ACode.cond (AO.t 129) ((ACode.region q_law08_SuperBumps_17).seq ACode.ret) ACode.skip)).seq (ACode.region r18))) (Kt.blk 1 (Kt.thn (ACode.region r19) Kt.done))) (upd env' 90 (.own gk 0 1))) Kp) := by
            intro kb env' p11 p13 p14 p2 p3 p4 p16 Kp gk hgk
            have ak : Y gk = none := sub_noneL dat3.sub hgk
            have dat4 := dat3.rebase (c := .row T_bool 1 (bls [kb])) hgk
            obtain ⟨n', w', two2, hn', hcode, hwl2, hst2⟩ := two.round (by omega) hq4 kb hR
            refine w_disk_Crash dat4 (by omega) (kv := .own gk 0 1) (keep := [kb]) (.inr ⟨gk, rfl, set_eq'⟩) fun C5 dat5 => ?_
            have dat5 := dat5.base (sub_none ak)
            obtain ⟨D5, hD5⟩ : ∃ D5, D5 = R.1.crash [kb] := ⟨_, rfl⟩
            rw [← hD5] at dat5 two2 hst2
            simp -implicitDefEqProofs
            simp -implicitDefEqProofs [hr15, q_law08_SuperBumps_15, p11]
            refine w_super_Read dat5 fun C6 k6 => ?_
            rw [two2.read]
            unfold supV
            simp -implicitDefEqProofs
            intro g17 h17
            obtain ⟨C7, e17, k17, y17⟩ := fresh_set (.var 58 [.int .i64 s, .int .i64 t, .int .i64 c, .int .i64 u, .int .i64 n']) h17
            rw [← e17]; clear e17
            have dat7 := (dat5.mono k6).mono k17
            have z4 := dat7.sub _ _ y1
            have w1 : IntKind.i64.wrap ((n : Int) + 1) = (n : Int) + 1 := wrap_i64 (by omega)
            have w2 : ¬ (n' : Int) < n := by omega
            have w3 : ¬ (n : Int) + 1 < n' := by omega
            have w4 : ¬ n' < n := by omega
            have wi : IntKind.i64.wrap ((i : Int) + 1) = ((i + 1 : Nat) : Int) := by rw [wrap_i64 (by omega)]; simp
            have w5 : e = 0 → (n' : Int) = n + 1 := fun h => by have := hcode (by rw [← he]; exact h); omega
            simp -implicitDefEqProofs [hr16, q_law08_SuperBumps_16, y17, z4, p4, p13, p16, w1, w2, w3, w4]
            have fin2 : ∀ env'' : AEnv, env'' 2 = .isl .u8 (ints fs) → env'' 3 = .dsl 1 (bls ks) → env'' 4 = .ptr g4 0 → env'' 11 = .ptr gd 0 → env'' 14 = .int .i64 i → env'' 17 = .ptr g17 0 → XO Try.prog (lp Try.prog (fin [ARes.tmp 8] (AV.bool true)) (Kt.blk 0 (Kt.thn ((ACode.region q_law08_SuperBumps_20).seq ACode.ret) Kt.done)) (BmI Y gd g4 s t c u m fs ks) (fun p => fs.length - p.i) { i := i, D := D, n := n, w := w }) r18 (Kt.blk 1 (Kt.thn (ACode.region r19) Kt.done)) env'' C7 := by
              intro env'' x2 x3 x4 x11 x14 x17
              simp -implicitDefEqProofs [hr18, q_law08_SuperBumps_18, x17, y17]
              simp -implicitDefEqProofs [hr19, q_law08_SuperBumps_19, x14, wi, -Int.natCast_add]
              exact lp_next ⟨i + 1, D5, n', w'⟩ ⟨by simp only; omega, two2, by simp only; omega, by simp only; omega, dat7, by simp [x2], by simp [x3], by simp [x4], by simp [x11], by simp, by simp⟩ (by simp only; omega)
            by_cases he0 : e = 0
            · have w6 := w5 he0
              simp -implicitDefEqProofs [he0, y17, p13, w1, w6]
              refine fin2 _ ?_ ?_ ?_ ?_ ?_ ?_ <;> simp [p2, p3, p4, p11, p14]
            · simp -implicitDefEqProofs [he0]
              refine fin2 _ ?_ ?_ ?_ ?_ ?_ ?_ <;> simp [p2, p3, p4, p11, p14]
          simp -implicitDefEqProofs [hr14, q_law08_SuperBumps_14, f3, f14, f11]
          by_cases hkl : i < ks.length
          · have hkl' : (i : Int) < (ks.length : Int) := by omega
            simp -implicitDefEqProofs [hkl, hkl', bls, f3, f14]
            intro gk hgk
            refine tail _ _ ?_ ?_ ?_ ?_ ?_ ?_ ?_ _ gk hgk <;> simp [f11, f13, f14, f2, f3, f4]
          · simp -implicitDefEqProofs [hkl, f3, f14]
            intro gk hgk
            refine tail _ _ ?_ ?_ ?_ ?_ ?_ ?_ ?_ _ gk hgk <;> simp [f11, f13, f14, f2, f3, f4]
        · simp -implicitDefEqProofs [q_law08_SuperBumps_20]
          refine w_law08_works.call .nil rfl ?_
          simp -implicitDefEqProofs [outOf]
      · simp -implicitDefEqProofs [hc0, q_law08_SuperBumps_6]
        refine w_law08_works.call .nil rfl ?_
        simp -implicitDefEqProofs [outOf]
end Go.Proofs.Ytilgdnbijkcboaa

/- What comes in to the laws of super. -/
namespace Go.Proofs.Ytilgdnbijkcboaa
open Go AVL
set_option linter.unusedVariables false
set_option linter.unusedSimpArgs false

theorem plan_in {v : AV} (h : (ATy.agg [.int .i64, .int .i64, .int .i64, .int .i64]).has v) : ∃ s t c a : Int, v = planV s t c a := by
  unfold ATy.has at h
  obtain ⟨l, rfl, h⟩ := h
  simp only [ATy.hasL] at h
  obtain ⟨_, _, rfl, h1, _, _, rfl, h2, _, _, rfl, h3, _, _, rfl, h4, rfl⟩ := h
  unfold ATy.has at h1 h2 h3 h4
  obtain ⟨s, rfl, _⟩ := h1
  obtain ⟨t, rfl, _⟩ := h2
  obtain ⟨c, rfl, _⟩ := h3
  obtain ⟨a, rfl, _⟩ := h4
  exact ⟨s, t, c, a, rfl⟩
theorem sec_in {v : AV} (h : (ATy.iarr .u8 256).has v) : ∃ x, v = .iarr .u8 256 (ints x) ∧ Sec x := by
  unfold ATy.has at h
  obtain ⟨l, rfl, hl, w⟩ := h
  obtain ⟨x, rfl, hx⟩ := bytes_in w
  exact ⟨x, rfl, by simpa using hl, hx⟩
theorem bools_in : ∀ {l : List AV}, (∀ x ∈ l, ATy.has .bool x) → ∃ m, l = bls m
  | [], _ => ⟨[], rfl⟩
  | v :: l, h => by
    obtain ⟨m, h1⟩ := bools_in (l := l) fun x hx => h x (by simp [hx])
    have := h v (by simp)
    unfold ATy.has at this
    obtain ⟨b, rfl⟩ := this
    exact ⟨b :: m, by rw [h1]; rfl⟩
end Go.Proofs.Ytilgdnbijkcboaa
