/- The walk of Parse. -/
import Derived.Test.YtjbiekcldkjgjaaDs
namespace Go.Proofs.Ytjbiekcldkjgjaa
open Go AVL
attribute [-simp] AV.isAgg aappI aapp alen
set_option linter.unusedVariables false
set_option linter.unusedSimpArgs false
set_option maxRecDepth 8000

def uN (s : List Nat) (i : Nat) : Nat := (unhx (s.getD i 0)).getD 0
/-- The bytes so far. -/
def outP (s : List Nat) (i : Nat) : List Nat := (List.range 32).map fun j => if 2 * j + 2 ≤ i then 16 * uN s (2 * j) + uN s (2 * j + 1) else if 2 * j + 1 = i then uN s (2 * j) else 0
@[simp] theorem outP_length (s : List Nat) (i : Nat) : (outP s i).length = 32 := by simp [outP]
theorem outP_get (s : List Nat) (i j : Nat) (h : j < (outP s i).length) : (outP s i)[j] = if 2 * j + 2 ≤ i then 16 * uN s (2 * j) + uN s (2 * j + 1) else if 2 * j + 1 = i then uN s (2 * j) else 0 := by simp [outP]
theorem outP_zero (s : List Nat) : outP s 0 = List.replicate 32 0 := by
  apply List.ext_getElem
  · simp
  · intro j h1 h2
    rw [outP_get, List.getElem_replicate, if_neg (by omega), if_neg (by omega)]
theorem unhx_lt {c n : Nat} (h : unhx c = some n) : n < 16 := (hx_unhx h).2
theorem uN_lt (s : List Nat) (i : Nat) : uN s i < 16 := by
  unfold uN
  cases h : unhx (s.getD i 0) with
  | none => decide
  | some n => exact unhx_lt h
theorem outP_at (s : List Nat) {i : Nat} (h : i < 64) : ∃ x, (outP s i)[i / 2]?.getD 0 = x ∧ x < 16 ∧ outP s (i + 1) = (outP s i).set (i / 2) (16 * x + uN s i) := by
  have hl : i / 2 < (outP s i).length := by simp; omega
  refine ⟨_, rfl, ?_, ?_⟩
  · rw [List.getElem?_eq_getElem hl, Option.getD_some, outP_get, if_neg (by omega)]
    split
    · exact uN_lt _ _
    · decide
  · rw [List.getElem?_eq_getElem hl, Option.getD_some, outP_get, if_neg (by omega)]
    apply List.ext_getElem
    · simp
    · intro j h1 h2
      rw [List.getElem_set, outP_get]
      by_cases e : i / 2 = j
      · subst e
        rw [if_pos rfl]
        by_cases o : 2 * (i / 2) + 1 = i
        · rw [if_pos o, if_pos (by omega), show 2 * (i / 2) = i - 1 by omega, show i - 1 + 1 = i by omega]
        · rw [if_neg o, if_neg (by omega), if_pos (by omega), show 2 * (i / 2) = i by omega]; omega
      · rw [if_neg e, outP_get]
        by_cases a : 2 * j + 2 ≤ i
        · rw [if_pos a, if_pos (by omega)]
        · rw [if_neg a, if_neg (by omega), if_neg (by omega), if_neg (by omega)]
theorem parL_get : ∀ {s l : List Nat}, parL s = some l → ∀ j, j < l.length → l.getD j 0 = 16 * uN s (2 * j) + uN s (2 * j + 1)
  | [], l, h, j, hj => by simp only [parL] at h; injection h with h; subst h; simp at hj
  | [_], l, h, j, hj => by simp [parL] at h
  | x :: y :: r, l, h, j, hj => by
    simp only [parL] at h
    split at h
    · rename_i a b l' h1 h2 h3
      injection h with h; subst h
      match j with
      | 0 => simp [uN, h1, h2]
      | j + 1 =>
        have ih := parL_get h3 j (by simpa using hj)
        rw [List.getD_cons_succ, ih, show 2 * (j + 1) = 2 * j + 2 by omega]
        simp [uN]
    · cases h
theorem parL_out {s l : List Nat} (h : parL s = some l) (hs : s.length = 64) : outP s 64 = l := by
  have hl := (parL_some h).1
  apply List.ext_getElem
  · simp; omega
  · intro j h1 h2
    rw [outP_get, if_pos (by simp at h1; omega), ← parL_get h j h2, List.getD_eq_getElem?_getD, List.getElem?_eq_getElem h2]; rfl
/-- What Parse answers. -/
def parA (s : List Nat) : List Nat := if s.length = 64 then (parL s).getD (List.replicate 32 0) else List.replicate 32 0
def parC (s : List Nat) : Int := if s.length = 64 ∧ (parL s).isSome then 0 else 3
theorem par_bad {s : List Nat} {i : Nat} (h : i < s.length) (hn : unhx (s.getD i 0) = none) : parA s = List.replicate 32 0 ∧ parC s = 3 := by
  have : parL s = none := by
    cases e : parL s with
    | none => rfl
    | some l =>
      obtain ⟨n, hn', _⟩ := (parL_some e).2 i h
      rw [hn] at hn'; cases hn'
  simp [parA, parC, this]
theorem par_good {s : List Nat} (h : s.length = 64) (hn : ∀ i, i < 64 → unhx (s.getD i 0) ≠ none) : parA s = outP s 64 ∧ parC s = 0 := by
  cases e : parL s with
  | none =>
    obtain ⟨i, hi, he⟩ := parL_none 32 (by omega) e
    exact absurd he (hn i (by omega))
  | some l => simp [parA, parC, e, h, parL_out e h]
def cOut (l : List Nat) : Cont := .var 39 [.iarr .u8 32 (ints l)]
def z32' : List Nat := List.replicate 32 0
theorem shl4 {n m : Nat} (h : n < 16) (hm : 16 * n = m) : shlI .u8 (n : Int) 4 = (m : Int) := by
  simp only [shlI]
  have : (2 : Int) ^ min (Int.toNat 4) IntKind.u8.bits = 16 := by decide
  rw [this, wrap_u8 (by omega)]; omega
theorem orN4 {n m u s : Nat} (h : n < 16) (hm : 16 * n = m) (hu : u < 16) (hs : 16 * n + u = s) : bOr .u8 (m : Int) (u : Int) = (s : Int) := by
  rw [bOr_nat rfl (show m < 2 ^ 8 by omega) (show u < 2 ^ 8 by omega)]
  have := Nat.two_pow_add_eq_or_of_lt (i := 4) (b := u) (by omega) n
  have e : m ||| u = 2 ^ 4 * n ||| u := by rw [← hm]
  rw [e, ← this]; omega
/-- A region of Parse that puts a digit in. -/
theorem parse_13 {R : APost} {k : Kt} {env : AEnv} {A : Heap} {s : List Nat} {g4 i : Nat} (hi : i < 64) (e4 : env 4 = .ptr g4 0) (e5 : env 5 = .int .i64 i) (e6 : env 6 = .int .u8 (uN s i)) (f4 : A g4 = some (cOut (outP s i)))
    (hk : ∀ env', (∀ n, n < 38 → env' n = env n) → XE Try.prog R .normal k env' (A.set g4 (cOut (outP s (i + 1))))) : X Try.prog R (.region q_digest_Parse_13) k env A := by
  obtain ⟨x, hx, hx16, hset⟩ := outP_at s hi
  have hu := uN_lt s i
  obtain ⟨u, hu'⟩ : ∃ u, uN s i = u := ⟨_, rfl⟩
  rw [hu'] at e6 hset hu
  obtain ⟨m, hm⟩ : ∃ m, 16 * x = m := ⟨_, rfl⟩
  obtain ⟨y, hy⟩ : ∃ m, 16 * x + u = m := ⟨_, rfl⟩
  have w1 := shl4 hx16 hm
  have w2 := orN4 hx16 hm hu hy
  rw [hy] at hset
  have hol := outP_length s i
  obtain ⟨L, hL⟩ : ∃ L, outP s i = L := ⟨_, rfl⟩
  obtain ⟨d, hd⟩ : ∃ d, i / 2 = d := ⟨_, rfl⟩
  rw [hL] at hx hset f4 hol
  rw [hd] at hx hset
  have hd32 : d < 32 := by omega
  have c32 : (d : Int) < 32 := by omega
  have q1 : IntKind.i64.wrap ((i : Int) / 2) = (d : Int) := by rw [wrap_i64 (by omega)]; omega
  rw [hset] at hk
  unfold cOut at f4
  simp -implicitDefEqProofs [q_digest_Parse_13, e4, e5, e6, f4, q1, w1, w2, c32, hx, hol]
  refine hk _ fun n hn => ?_
  have a0 : n ≠ 38 := by omega
  have a1 : n ≠ 39 := by omega
  have a2 : n ≠ 40 := by omega
  have a3 : n ≠ 41 := by omega
  have a4 : n ≠ 42 := by omega
  have a5 : n ≠ 43 := by omega
  have a6 : n ≠ 44 := by omega
  have a7 : n ≠ 45 := by omega
  have a8 : n ≠ 46 := by omega
  have a9 : n ≠ 47 := by omega
  simp [a0, a1, a2, a3, a4, a5, a6, a7, a8, a9]
theorem pop_sN {s : List Nat} (hb : byts s) {i : Nat} (h : i < s.length) {k : IntKind} : pop .strIdx [.str (sN s), .int k (i : Int)] = some (.int .u8 (s.getD i 0 : Nat)) := by
  simp only [pop, sN_size, Int.toNat_natCast, bytesI_sN hb, ints_getD]
  rw [if_pos (by omega)]
theorem unhx_dig {c : Nat} (h1 : 48 ≤ c) (h2 : c ≤ 57) : unhx c = some (c - 48) := by unfold unhx; rw [if_pos ⟨h1, h2⟩]
theorem unhx_let {c : Nat} (h2 : ¬ c ≤ 57) (h3 : 97 ≤ c) (h4 : c ≤ 102) : unhx c = some (c - 87) := by unfold unhx; rw [if_neg (by omega), if_pos ⟨h3, h4⟩]
theorem unhx_no {c : Nat} (h : ¬ (48 ≤ c ∧ c ≤ 57)) (h' : ¬ (97 ≤ c ∧ c ≤ 102)) : unhx c = none := by unfold unhx; rw [if_neg h, if_neg h']
/-- What is read of one digit: it becomes its number, or all ends. -/
theorem parse_sw {R : APost} {k : Kt} {env : AEnv} {A : Heap} {c g2 : Nat} (hc : c < 256) (e2 : env 2 = .ptr g2 0) (e6 : env 6 = .int .u8 c) (f2 : A g2 = some (cOut z32'))
    (hk : ∀ u, unhx c = some u → ∀ env', env' 6 = .int .u8 u → (∀ n, n < 20 → n ≠ 6 → env' n = env n) → XE Try.prog R .normal k env' A)
    (hn : unhx c = none → ∀ env', env' 2 = .ptr g2 0 → env' 3 = .int .i64 3 → XE Try.prog R .ret k env' (A.set g2 (cOut z32'))) :
    X Try.prog R (.seq (.region q_digest_Parse_8) (.cond (.t 20) (.region q_digest_Parse_9) (.seq (.region q_digest_Parse_10) (.cond (.t 29) (.region q_digest_Parse_11) (.seq (.region q_digest_Parse_12) .ret))))) k env A := by
  unfold cOut z32' at f2
  have fin0 : unhx c = none → ∀ env1 : AEnv, env1 2 = .ptr g2 0 → X Try.prog R (.seq (.region q_digest_Parse_12) .ret) k env1 A := fun h env1 h2 => by
    have hb0 : ints (List.replicate 32 0) = List.replicate 32 (0 : Int) := by simp [ints]
    simp -implicitDefEqProofs [q_digest_Parse_12, h2, f2, -List.reduceReplicate]
    refine hn h _ ?_ ?_ <;> simp [h2]
  by_cases h1 : 48 ≤ c
  · have d1 : (48 : Int) ≤ c := by omega
    by_cases h2 : c ≤ 57
    · have d2 : (c : Int) ≤ 57 := by omega
      have w : IntKind.u8.wrap ((c : Int) - 48) = ((c - 48 : Nat) : Int) := by rw [wrap_u8 (by omega)]; omega
      have hu := unhx_dig h1 h2
      obtain ⟨u, hu'⟩ : ∃ u, c - 48 = u := ⟨_, rfl⟩
      rw [hu'] at w hu
      simp -implicitDefEqProofs [q_digest_Parse_8, q_digest_Parse_9, e6, d1, d2, w]
      refine hk u hu _ (by simp) fun n hn h6 => ?_
      have hne : ∀ k, 20 ≤ k → ¬ n = k := fun k hk => by omega
      simp [hne, h6]
    · have d2 : ¬ (c : Int) ≤ 57 := by omega
      by_cases h3 : 97 ≤ c
      · have d3 : (97 : Int) ≤ c := by omega
        by_cases h4 : c ≤ 102
        · have d4 : (c : Int) ≤ 102 := by omega
          have w : IntKind.u8.wrap ((c : Int) - 87) = ((c - 87 : Nat) : Int) := by rw [wrap_u8 (by omega)]; omega
          have hu := unhx_let h2 h3 h4
          obtain ⟨u, hu'⟩ : ∃ u, c - 87 = u := ⟨_, rfl⟩
          rw [hu'] at w hu
          simp -implicitDefEqProofs [q_digest_Parse_8, q_digest_Parse_10, q_digest_Parse_11, e6, d1, d2, d3, d4, w]
          refine hk u hu _ (by simp) fun n hn h6 => ?_
          have hne : ∀ k, 20 ≤ k → ¬ n = k := fun k hk => by omega
          simp [hne, h6]
        · have d4 : ¬ (c : Int) ≤ 102 := by omega
          have f := fin0 (unhx_no (by omega) (by omega))
          simp only [X_seq, X_region] at f
          simp -implicitDefEqProofs [q_digest_Parse_8, q_digest_Parse_10, e6, d1, d2, d3, d4]
          exact f _ (by simp [e2])
      · have d3 : ¬ (97 : Int) ≤ c := by omega
        have f := fin0 (unhx_no (by omega) (by omega))
        simp only [X_seq, X_region] at f
        simp -implicitDefEqProofs [q_digest_Parse_8, q_digest_Parse_10, e6, d1, d2, d3]
        exact f _ (by simp [e2])
  · have d1 : ¬ (48 : Int) ≤ c := by omega
    have d3 : ¬ (97 : Int) ≤ c := by omega
    have f := fin0 (unhx_no (by omega) (by omega))
    simp only [X_seq, X_region] at f
    simp -implicitDefEqProofs [q_digest_Parse_8, q_digest_Parse_10, e6, d1, d3]
    exact f _ (by simp [e2])
theorem w_digest_Parse {s : List Nat} (hb : byts s) (hl : s.length < 2 ^ 32) : Gives Try.prog F_digest_Parse [.str (sN s)] (.tuple [.iarr .u8 32 (ints (parA s)), .int .i64 (parC s)]) := by
  refine v_digest_Parse (by simp) ?_
  simp -implicitDefEqProofs [a_digest_Parse, q_digest_Parse_0, q_digest_Parse_1, -List.reduceReplicate]
  intro g2 g4 n1 n2
  have hz : ints z32' = List.replicate 32 (0 : Int) := by simp [ints, z32']
  by_cases h64 : s.length = 64
  · simp -implicitDefEqProofs [q_digest_Parse_2, q_digest_Parse_4, h64, -List.reduceReplicate]
    refine X_lp (fun (i : Nat) env B => i ≤ 64 ∧ env 0 = .str (sN s) ∧ env 2 = .ptr g2 0 ∧ env 4 = .ptr g4 0 ∧ env 12 = .int .i64 64 ∧ env 13 = .int .i64 i ∧ B g2 = some (cOut z32') ∧ B g4 = some (cOut (outP s i)) ∧ ∀ j, j < i → unhx (s.getD j 0) ≠ none) (fun i => 64 - i) 0
      ⟨by omega, by simp, by simp, by simp, by simp, by simp, ?_, ?_, fun j hj => by omega⟩ ?_
    · simp [n1, n2, cOut, hz]
    · simp only [outP_zero, cOut]; simp [← hz, z32', -List.reduceReplicate]
    rintro i env B ⟨hi, e0, e2, e4, e12, e13, f2, f4, hgood⟩
    by_cases hi64 : i < 64
    · have c64 : (i : Int) < 64 := by omega
      have w1 := pop_sN hb (show i < s.length by omega) (k := .i64)
      have hcb : s.getD i 0 < 256 := by
        rw [List.getD_eq_getElem?_getD, List.getElem?_eq_getElem (show i < s.length by omega)]
        exact hb _ (List.getElem_mem _)
      obtain ⟨c, hc⟩ : ∃ c, s.getD i 0 = c := ⟨_, rfl⟩
      rw [hc] at w1 hcb
      have main := fun R k env1 h2 h6 hk hn => parse_sw (R := R) (k := k) (env := env1) (A := B) hcb h2 h6 f2 hk hn
      simp only [X_seq, X_region] at main
      simp -implicitDefEqProofs [q_digest_Parse_L15, q_digest_Parse_5, q_digest_Parse_6, q_digest_Parse_7, e0, e2, e4, e12, e13, c64, w1, -pop]
      refine main _ _ _ (by simp [e2]) (by simp) (fun u hu env' h6' hsame => ?_) fun hnone env' h2' h3' => ?_
      · have huN : uN s i = u := by unfold uN; rw [hc, hu]; rfl
        have y5 := hsame 5 (by omega) (by omega)
        have y0 := hsame 0 (by omega) (by omega)
        have y2 := hsame 2 (by omega) (by omega)
        have y4 := hsame 4 (by omega) (by omega)
        have y12 := hsame 12 (by omega) (by omega)
        have y13 := hsame 13 (by omega) (by omega)
        simp [e0, e2, e4, e12, e13] at y5 y0 y2 y4 y12 y13
        have wi : IntKind.i64.wrap ((i : Int) + 1) = (i : Int) + 1 := wrap_i64 (by omega)
        simp only [XE_blk, XE_thn]
        refine parse_13 hi64 y4 y5 (by rw [huN]; exact h6') f4 fun env2 hs2 => ?_
        have z0 := hs2 0 (by omega)
        have z2 := hs2 2 (by omega)
        have z4 := hs2 4 (by omega)
        have z12 := hs2 12 (by omega)
        have z13 := hs2 13 (by omega)
        rw [y0] at z0; rw [y2] at z2; rw [y4] at z4; rw [y12] at z12; rw [y13] at z13
        simp -implicitDefEqProofs [q_digest_Parse_14, z13, wi]
        refine lp_next (i + 1) ⟨by omega, by simp [z0], by simp [z2], by simp [z4], by simp [z12], by simp, by simp [n2, f2], by simp, ?_⟩ (by omega)
        intro j hj
        rcases Nat.lt_succ_iff_lt_or_eq.1 hj with h | h
        · simpa using hgood j h
        · subst h
          have : s[j]?.getD 0 = c := by rw [← hc, List.getD_eq_getElem?_getD]
          rw [this, hu]; simp
      · obtain ⟨p1, p2⟩ := par_bad (show i < s.length by omega) (by rw [hc]; exact hnone)
        have hzl : z32'.length = 32 := rfl
        simp -implicitDefEqProofs [h2', h3', cOut, a_digest_Parse, outOf, p1, p2, hzl]
        rfl
    · have c64 : ¬ (i : Int) < 64 := by omega
      have hie : i = 64 := by omega
      subst hie
      obtain ⟨p1, p2⟩ := par_good h64 hgood
      have hol := outP_length s 64
      have hzl : z32'.length = 32 := rfl
      unfold cOut at f2 f4
      simp -implicitDefEqProofs [q_digest_Parse_L15, q_digest_Parse_5, q_digest_Parse_15, e2, e4, e12, e13, c64, f2, f4, hol, hzl, n1, n2, a_digest_Parse, outOf, p1, p2]
  · have c64 : ¬ ((s.length : Int) = 64) := by omega
    have p1 : parA s = z32' := by simp [parA, h64, z32']
    have p2 : parC s = 3 := by simp [parC, h64]
    simp -implicitDefEqProofs [q_digest_Parse_2, q_digest_Parse_3, h64, c64, n1, n2, a_digest_Parse, outOf, p1, p2, hz, -List.reduceReplicate]
end Go.Proofs.Ytjbiekcldkjgjaa
