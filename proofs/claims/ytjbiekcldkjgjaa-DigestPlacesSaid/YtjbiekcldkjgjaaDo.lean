/- The walks of the sum that grows: Sum, Of. -/
import Derived.Test.YtjbiekcldkjgjaaDn
namespace Go.Proofs.Ytjbiekcldkjgjaa
open Go AVL
attribute [-simp] AV.isAgg aappI aapp alen shp good comps
set_option linter.unusedVariables false
set_option linter.unusedSimpArgs false
set_option maxRecDepth 8000

/-- A sum, seen. -/
def hashV (l : List Nat) : AV := .pval (.agg [.iarr .u32 8 (ints (stW l)), .isl .u8 (ints (stR l)), .int .u64 l.length])
theorem hash_vw {A : Heap} {h : Nat} {r : AV} {l : List Nat} (hA : HashR A h r l) : Vw A (.ptr h 0) (hashV l) := by
  refine .ptr hA.at' (.cons (.refl _) (.cons ?_ (.cons (.refl _) .nil)))
  rcases hA.rest with ⟨rfl, h0⟩ | ⟨g, rfl, hg, _⟩
  · rw [h0]; exact .nil .u8
  · exact vw_il' hg rfl
theorem hsum_L18 {s : List Nat} (h8 : s.length = 8) {R : APost} {k : Kt} {env : AEnv} {A : Heap} {g2 g5 g6 : Nat} (e2 : env 2 = .ptr g2 0) (e5 : env 5 = .ptr g5 0) (e6 : env 6 = .ptr g6 0) (e52 : env 52 = .int .i64 0)
    (f2 : A g2 = some (arrB z32)) (f5 : A g5 = some (arr8 s)) (f6 : A g6 = some (arrB z32)) (n2 : g2 ≠ g6) (n5 : g5 ≠ g6)
    (hk : ∀ env' B, env' 2 = .ptr g2 0 → env' 6 = .ptr g6 0 → B g2 = some (arrB z32) → B g6 = some (arrB (outB s)) → XE Try.prog R (.exit 6) k env' B) : X Try.prog R (.loop q_Pdigest_Hash_Sum_L18) k env A := by
  have hol := outB_length s
  refine X_lp (fun (i : Nat) env B => i ≤ 32 ∧ env 2 = .ptr g2 0 ∧ env 5 = .ptr g5 0 ∧ env 6 = .ptr g6 0 ∧ env 52 = .int .i64 i ∧ B g2 = some (arrB z32) ∧ B g5 = some (arr8 s) ∧ B g6 = some (arrB ((outB s).take i ++ List.replicate (32 - i) 0))) (fun i => 32 - i) 0
    ⟨by omega, e2, e5, e6, e52, f2, f5, by rw [List.take_zero, List.nil_append]; exact f6⟩ ?_
  rintro i env B ⟨hi, e2, e5, e6, e52, f2, f5, f6⟩
  simp -implicitDefEqProofs [q_Pdigest_Hash_Sum_L18, q_Pdigest_Hash_Sum_14, e2, e5, e6, e52]
  refine ⟨fun hil => ?_, fun hil => ?_⟩
  · have hio : i < (outB s).length := by omega
    have q1 : IntKind.i64.wrap ((i : Int) / 4) = ((i / 4 : Nat) : Int) := by rw [wrap_i64 (by omega)]; omega
    have q2 : (i : Int).tmod 4 = ((i % 4 : Nat) : Int) := by rw [Int.tmod_eq_emod_of_nonneg (by omega)]; omega
    obtain ⟨d, hd⟩ : ∃ d, i / 4 = d := ⟨_, rfl⟩
    obtain ⟨m, hm⟩ : ∃ m, i % 4 = m := ⟨_, rfl⟩
    have hd8 : d < 8 := by omega
    have hm4 : m < 4 := by omega
    have hbyte := outB_get s i hio
    rw [hd, hm] at hbyte
    rw [hd] at q1; rw [hm] at q2
    have w3 : IntKind.i64.wrap (8 * (m : Int)) = 8 * (m : Int) := wrap_i64 (by omega)
    have w4 : IntKind.i64.wrap (24 - 8 * (m : Int)) = ((24 - 8 * m : Nat) : Int) := by rw [wrap_i64 (by omega)]; omega
    obtain ⟨x, hx⟩ : ∃ x, s.getD d 0 = x := ⟨_, rfl⟩
    have hsd : s[d]?.getD 0 = x := by rw [← hx, List.getD_eq_getElem?_getD]
    have w6 := byte32_of (n := x) (m := 24 - 8 * m) (by omega) (k := ((24 - 8 * m : Nat) : Int)) rfl
    rw [hx] at hbyte
    obtain ⟨y, hy⟩ : ∃ y, x / 2 ^ (24 - 8 * m) % 256 = y := ⟨_, rfl⟩
    rw [hy] at w6 hbyte
    obtain ⟨sh, hsh⟩ : ∃ t, 24 - 8 * m = t := ⟨_, rfl⟩
    rw [hsh] at w4 w6
    have hset := fill_setN hio (show (outB s).length ≤ 32 by omega)
    rw [hbyte] at hset
    obtain ⟨L, hL⟩ : ∃ L, (outB s).take i ++ List.replicate (32 - i) 0 = L := ⟨_, rfl⟩
    have hLl : L.length = 32 := by rw [← hL]; simp [hol]; omega
    rw [hL] at f6 hset
    have c8 : (d : Int) < 8 := by omega
    have c32 : (i : Int) < 32 := by omega
    have p0 : 0 ≤ (sh : Int) := by omega
    have wi : IntKind.i64.wrap ((i : Int) + 1) = (i : Int) + 1 := wrap_i64 (by omega)
    unfold arr8 at f5
    unfold arrB at f6
    simp -implicitDefEqProofs [q_Pdigest_Hash_Sum_15, q_Pdigest_Hash_Sum_16, q_Pdigest_Hash_Sum_17, e2, e5, e6, e52, f5, f6, q1, q2, w3, w4, w6, hsd, h8, c8, c32, hLl, hset, wi, hil]
    refine lp_next (i + 1) ⟨by omega, by simp [e2], by simp [e5], by simp [e6], by simp, by simp [n2, f2], by simp [n5, f5, arr8], ?_⟩ (by omega)
    rw [show 32 - (i + 1) = 31 - i by omega]
    simp [arrB]
  · have hie : i = 32 := by omega
    subst hie
    rw [List.take_of_length_le (by omega), show 32 - 32 = 0 by rfl, List.replicate_zero, List.append_nil] at f6
    refine hk _ _ ?_ ?_ f2 f6
    · simp [e2]
    · simp [e6]
theorem hsum_L12 {W e : List Nat} (hW8 : W.length = 8) (hWw : Words W) (heb : byts e) {nb : Nat} (hel : e.length = 64 * nb) (hem : e.length ≤ 200000) {R : APost} {k : Kt} {env : AEnv} {A : Heap} {g2 g5 ge : Nat}
    (e2 : env 2 = .ptr g2 0) (e3 : env 3 = .own ge 0 e.length) (e5 : env 5 = .ptr g5 0) (f2 : A g2 = some (arrB z32)) (f5 : A g5 = some (arr8 W)) (fe : A ge = some (.irow T_uint8 .u8 (ints e)))
    (hk : ∀ env' B, env' 2 = .ptr g2 0 → env' 5 = .ptr g5 0 → B g2 = some (arrB z32) → B g5 = some (arr8 (mixAll W nb e)) → XE Try.prog R (.exit 4) k env' B) : X Try.prog R (.loop q_Pdigest_Hash_Sum_L12) k env A := by
  have n2 : g2 ≠ g5 := by rintro rfl; rw [f2] at f5; cases f5
  have ne : ge ≠ g5 := by rintro rfl; rw [f5] at fe; cases fe
  have hWw' : ∀ j, Words (mixAll W j e) := fun j => mixAll_words _ _ hWw
  have hW : ∀ j, (mixAll W j e).length = 8 := fun j => mixAll_length _ _ hW8
  refine X_lp (fun (j : Nat) env B => j ≤ nb ∧ env 2 = .ptr g2 0 ∧ env 3 = .own ge (64 * j) (64 * (nb - j)) ∧ env 5 = .ptr g5 0 ∧ B g2 = some (arrB z32) ∧ B g5 = some (arr8 (mixAll W j e)) ∧ B ge = some (.irow T_uint8 .u8 (ints e))) (fun j => nb - j) 0
    ⟨by omega, e2, by rw [e3, hel]; simp, e5, f2, f5, fe⟩ ?_
  rintro j env B ⟨hj, e2, e3, e5, f2, f5, fe⟩
  have f5' := f5
  unfold arr8 at f5'
  by_cases hjn : j < nb
  · obtain ⟨m, hm⟩ : ∃ m, 64 * (nb - j) = m := ⟨_, rfl⟩
    rw [hm] at e3
    have c0 : 0 < m := by omega
    have c64 : (64 : Int) ≤ m := by omega
    obtain ⟨blk, hblk⟩ : ∃ x, (e.drop (64 * j)).take 64 = x := ⟨_, rfl⟩
    have hbb : byts blk := hblk ▸ byts_take (byts_drop heb _) _
    have hbl64 : blk.length = 64 := by rw [← hblk]; simp; omega
    have hvw := vw_part fe (show 64 * j + 64 ≤ e.length by omega)
    rw [hblk] at hvw
    have hstep := mixAll_succ j W e
    rw [hblk] at hstep
    simp -implicitDefEqProofs [q_Pdigest_Hash_Sum_L12, q_Pdigest_Hash_Sum_9, q_Pdigest_Hash_Sum_10, q_Pdigest_Hash_Sum_11, e2, e3, e5, f5', fe, c0, c64, hW]
    refine (w_digest_mix (hWw' j) (hW j) hbb hbl64).call (.cons (.refl _) rfl (.cons hvw rfl .nil)) rfl ?_
    have hm8 := mixB_length (mixAll W j e) blk
    simp -implicitDefEqProofs [e2, e3, e5, f5', fe, ne, hW, hm8, c64]
    refine lp_next (j + 1) ⟨by omega, by simp [e2], ?_, by simp [e5], by simp [n2, f2], ?_, by simp [ne, fe]⟩ (by omega)
    · simp; omega
    · rw [hstep]; simp [arr8]
  · have hje : j = nb := by omega
    subst hje
    rw [Nat.sub_self, Nat.mul_zero] at e3
    simp -implicitDefEqProofs [q_Pdigest_Hash_Sum_L12, q_Pdigest_Hash_Sum_9, e3]
    refine hk _ _ ?_ ?_ f2 f5
    · simp [e2]
    · simp [e5]
theorem hsum_6 {W Rr : List Nat} {N : Int} {m sh y : Nat} {gi n : Nat} {q : Int} {R : APost} {k : Kt} {env : AEnv} {A : Heap} (e0 : env 0 = .pval (.agg [.iarr .u32 8 (ints W), .isl .u8 (ints Rr), .int .u64 N]))
    (e3 : env 3 = .own gi 0 n) (e4 : env 4 = .int .i64 q) (w2 : IntKind.u64.wrap (8 * N) = ((m : Nat) : Int)) (w3 : IntKind.i64.wrap (8 * q) = ((sh : Nat) : Int))
    (w6 : IntKind.u8.wrap (shrI .u64 (m : Int) (sh : Int)) = (y : Int)) (p0 : 0 ≤ (sh : Int)) {l : List Int} {X0 : Heap} (hv : SlS T_uint8 .u8 (.own gi 0 n) l X0 A) (hn : l.length = n) (hb : n ≤ 200000)
    (hk : ∀ env' B g, env' 0 = .pval (.agg [.iarr .u32 8 (ints W), .isl .u8 (ints Rr), .int .u64 N]) → env' 2 = env 2 → env' 3 = .own g 0 (n + 1) → env' 4 = env 4 → SlS T_uint8 .u8 (.own g 0 (n + 1)) (l ++ [(y : Int)]) X0 B → XE Try.prog R .normal k env' B) : X Try.prog R (.region q_Pdigest_Hash_Sum_6) k env A := by
  simp -implicitDefEqProofs [q_Pdigest_Hash_Sum_6, e0, e3, e4, w2, w3, w6]
  intro g5 hg5
  refine hv.appO (bytes := 1) (ys := [(y : Int)]) (sub_none hg5) ?_ (by simp only [List.length_singleton]; omega) fun g6 A6 h6 => ?_
  · intro Q hQ; simpa [srcI] using hQ
  have hl1 : (l ++ [(y : Int)]).length = n + 1 := by simp [hn]
  rw [hl1] at h6 ⊢
  simp -implicitDefEqProofs
  refine hk _ _ g6 ?_ ?_ ?_ ?_ h6 <;> simp [e0, e3, e4]
theorem hsum_core {W Rr d : List Nat} {n : Nat} {N : Int} (hN : N = n) (hRb : byts Rr) (hW8 : W.length = 8) (hWw : Words W) (hsl : Rr.length = n % 64) (hll : n ≤ 100000) (hdl : d.length = 32)
    (hds : ∀ e, Rr ++ [128] ++ List.replicate (zeros n) 0 ++ be8 (8 * n) = e → d = outB (mixAll W (e.length / 64) e)) :
    Gives Try.prog F_Pdigest_Hash_Sum [.pval (.agg [.iarr .u32 8 (ints W), .isl .u8 (ints Rr), .int .u64 N])] (.iarr .u8 32 (ints d)) := by
  refine v_Pdigest_Hash_Sum (by simp) ?_
  simp -implicitDefEqProofs [a_Pdigest_Hash_Sum, q_Pdigest_Hash_Sum_0, q_Pdigest_Hash_Sum_1, -List.reduceReplicate]
  intro g2 g8 n1 n2
  obtain ⟨X2, hX2⟩ : ∃ X : Heap, H0.set g2 (.var 39 [.iarr .u8 32 (List.replicate 32 0)]) = X := ⟨_, rfl⟩
  have x2 : X2 g2 = some (arrB z32) := by rw [← hX2]; exact set_eq'
  have x8 : X2 g8 = none := by rw [← hX2]; simp [n1]
  rw [hX2]
  refine (SlS.one (e := T_uint8) (l := []) (n := 0) x8 rfl).appO (bytes := 1) (ys := ints Rr) (Sub_refl _) (fun Q hQ => ⟨rfl, hQ⟩) (by simp only [ints_length, List.length_nil]; omega) fun g9 A9 h9 => ?_
  simp only [List.nil_append, ints_length] at h9 ⊢
  simp -implicitDefEqProofs
  intro g10 hg10
  refine h9.appO (bytes := 1) (ys := [(128 : Int)]) (sub_none hg10) ?_ (by simp only [ints_length, List.length_singleton]; omega) fun g3 A3 h3 => ?_
  · intro Q hQ; simpa [srcI] using hQ
  have hone : ints Rr ++ [(128 : Int)] = ints (padP Rr 0) := by simp [ints, padP]
  rw [hone, ints_length] at h3 ⊢
  have hz : zeros n < 64 := Nat.mod_lt _ (by decide)
  have hzz : zeros Rr.length = zeros n := by unfold zeros; rw [hsl]; omega
  simp -implicitDefEqProofs
  refine X_lp (fun (j : Nat) env B => j ≤ zeros n ∧ env 0 = .pval (.agg [.iarr .u32 8 (ints W), .isl .u8 (ints Rr), .int .u64 N]) ∧ env 2 = .ptr g2 0 ∧ ∃ g, env 3 = .own g 0 (Rr.length + 1 + j) ∧ SlS T_uint8 .u8 (.own g 0 (Rr.length + 1 + j)) (ints (padP Rr j)) X2 B) (fun j => zeros n - j) 0
    ⟨by omega, by simp, by simp, g3, by simp, by simpa using h3⟩ ?_
  rintro j env B ⟨hj, e0, e2, gj, e3, hv⟩
  have hmod : ((Rr.length : Int) + 1 + j).tmod 64 = (((Rr.length + 1 + j) % 64 : Nat) : Int) := by rw [Int.tmod_eq_emod_of_nonneg (by omega)]; omega
  have hex : (Rr.length + 1 + j) % 64 = 56 ↔ j = zeros n := by rw [← hzz] at hj ⊢; unfold zeros at hj ⊢; omega
  by_cases hjz : j = zeros n
  · have hm56 : (Rr.length + 1 + j) % 64 = 56 := hex.2 hjz
    rw [hm56] at hmod
    simp -implicitDefEqProofs [q_Pdigest_Hash_Sum_L4, q_Pdigest_Hash_Sum_2, q_Pdigest_Hash_Sum_4, e3, hmod]
    subst hjz
    have hq0 : padP Rr (zeros n) = padQ Rr n 0 := by simp [padQ]
    rw [hq0] at hv
    obtain ⟨m, hm⟩ : ∃ m, 8 * n = m := ⟨_, rfl⟩
    have w2 : IntKind.u64.wrap (8 * N) = ((m : Nat) : Int) := by rw [hN, wrap_u64 (by omega)]; omega
    refine X_lp (fun (i : Nat) env B => i ≤ 8 ∧ env 0 = .pval (.agg [.iarr .u32 8 (ints W), .isl .u8 (ints Rr), .int .u64 N]) ∧ env 2 = .ptr g2 0 ∧ env 4 = .int .i64 (7 - (i : Int)) ∧ ∃ g, env 3 = .own g 0 (Rr.length + 1 + zeros n + i) ∧ SlS T_uint8 .u8 (.own g 0 (Rr.length + 1 + zeros n + i)) (ints (padQ Rr n i)) X2 B) (fun i => 8 - i) 0
      ⟨by omega, by simp [e0], by simp [e2], by simp, gj, by simp [e3], hv⟩ ?_
    rintro i env B ⟨hi, e0, e2, e4, gi, e3, hv⟩
    by_cases hil : i < 8
    · have c0 : (i : Int) ≤ 7 := by omega
      have w3 : IntKind.i64.wrap (8 * (7 - (i : Int))) = ((8 * (7 - i) : Nat) : Int) := by rw [wrap_i64 (by omega)]; omega
      have w6 := byte_of (n := m) (m := 7 - i) (by omega) (k := ((8 * (7 - i) : Nat) : Int)) rfl
      obtain ⟨sh, hsh⟩ : ∃ s, 8 * (7 - i) = s := ⟨_, rfl⟩
      obtain ⟨y, hy⟩ : ∃ y, m / 256 ^ (7 - i) % 256 = y := ⟨_, rfl⟩
      rw [hsh] at w3 w6; rw [hy] at w6
      have wi : IntKind.i64.wrap (7 - (i : Int) - 1) = 7 - ((i + 1 : Nat) : Int) := by rw [wrap_i64 (by omega)]; omega
      have hlq := padQ_length Rr n i (by omega)
      have hsq := padQ_succ Rr n i (by omega)
      rw [hm, hy] at hsq
      have p0 : 0 ≤ (sh : Int) := by omega
      simp -implicitDefEqProofs [q_Pdigest_Hash_Sum_L8, q_Pdigest_Hash_Sum_5, e4, c0]
      refine hsum_6 (W := W) (Rr := Rr) (q := 7 - (i : Int)) (gi := gi) (n := Rr.length + 1 + zeros n + i) ?_ ?_ ?_ w2 w3 w6 p0 hv (by rw [ints_length, hlq]) (by omega) fun env' B' g e0' e2' e3' e4' h6 => ?_
      · simp [e0]
      · simp [e3]
      · simp [e4]
      have hap : ints (padQ Rr n i) ++ [(y : Int)] = ints (padQ Rr n (i + 1)) := by rw [hsq]; simp [ints]
      rw [hap] at h6
      simp [e2] at e2'
      simp [e4] at e4'
      simp -implicitDefEqProofs [q_Pdigest_Hash_Sum_7, e4', wi]
      exact lp_next (i + 1) ⟨by omega, by simp [e0'], by simp [e2'], by simp, g, by simp [e3', Nat.add_assoc], by simpa only [Nat.add_assoc] using h6⟩ (by omega)
    · have hie : i = 8 := by omega
      subst hie
      simp -implicitDefEqProofs [q_Pdigest_Hash_Sum_L8, q_Pdigest_Hash_Sum_5, e4]
      rw [padQ_full, ← hzz, hzz] at hv
      obtain ⟨e, he⟩ : ∃ e, Rr ++ [128] ++ List.replicate (zeros n) 0 ++ be8 (8 * n) = e := ⟨_, rfl⟩
      have hds := hds e he
      rw [he] at hv
      have hel0 : e.length = Rr.length + 1 + zeros n + 8 := by rw [← he]; simp; omega
      have hel : e.length = 64 * (e.length / 64) := by
        have : zeros n = (119 - n % 64) % 64 := rfl
        omega
      have heb : byts e := by
        rw [← he]
        refine byts_append (byts_append (byts_append hRb ?_) ?_) (be8_byts _)
        · intro x hx; simp at hx; omega
        · intro x hx; rw [List.eq_of_mem_replicate hx]; decide
      obtain ⟨nb, hnb⟩ : ∃ n, e.length / 64 = n := ⟨_, rfl⟩
      rw [hnb] at hds hel
      rw [← hel0] at hv e3
      have ge : B gi = some (.irow T_uint8 .u8 (ints e)) := by
        rcases hv.own with ⟨h, _⟩ | ⟨g, h, _, hg⟩
        · cases h
        · injection h with h _ _; rw [h]; exact hg
      have f2 := hv.sub _ _ x2
      simp -implicitDefEqProofs [q_Pdigest_Hash_Sum_8, e0, hW8]
      intro g5 h5
      refine hsum_L12 hW8 hWw heb hel (by omega) (g2 := g2) (g5 := g5) (ge := gi) ?_ ?_ ?_ ?_ ?_ ?_ fun env' B' e2 e5 f2 f5 => ?_
      · simp [e2]
      · simp [e3]
      · simp
      · simp [fresh_ne f2 h5, f2]
      · simp [arr8]
      · simp [fresh_ne ge h5, ge]
      simp -implicitDefEqProofs [q_Pdigest_Hash_Sum_12, q_Pdigest_Hash_Sum_13, -List.reduceReplicate]
      intro g6 h6
      refine hsum_L18 (mixAll_length nb e hW8) (g2 := g2) (g5 := g5) (g6 := g6) ?_ ?_ ?_ ?_ ?_ ?_ ?_ (fresh_ne f2 h6) (fresh_ne f5 h6) fun env' B'' e2 e6 f2 f6 => ?_
      · simp [e2]
      · simp [e5]
      · simp
      · simp
      · simp [fresh_ne f2 h6, f2]
      · simp [fresh_ne f5 h6, f5]
      · simp [arrB, z32, ints]
      rw [← hds] at f6
      unfold arrB z32 at f2
      unfold arrB at f6
      simp -implicitDefEqProofs [q_Pdigest_Hash_Sum_18, e2, e6, f2, f6, hdl, outOf, -List.reduceReplicate]
  · have hm56 : ¬ (Rr.length + 1 + j) % 64 = 56 := fun e => hjz (hex.1 e)
    obtain ⟨md, hmd⟩ : ∃ m, (Rr.length + 1 + j) % 64 = m := ⟨_, rfl⟩
    rw [hmd] at hmod hm56
    have hm' : ¬ (md : Int) = 56 := by omega
    simp -implicitDefEqProofs [q_Pdigest_Hash_Sum_L4, q_Pdigest_Hash_Sum_2, q_Pdigest_Hash_Sum_3, e3, hmod, hm']
    intro g5 hg5
    refine hv.appO (bytes := 1) (ys := [(0 : Int)]) (sub_none hg5) ?_ (by simp only [ints_length, List.length_singleton, padP_length]; omega) fun g6 A6 h6 => ?_
    · intro Q hQ; simpa [srcI] using hQ
    have hap : ints (padP Rr j) ++ [(0 : Int)] = ints (padP Rr (j + 1)) := by rw [padP_succ]; simp [ints]
    rw [hap, ints_length, padP_length] at h6 ⊢
    simp -implicitDefEqProofs
    exact lp_next (j + 1) ⟨by omega, by simp [e0], by simp [e2], g6, by simp, h6⟩ (by omega)
theorem w_Hash_Sum {l : List Nat} (hl : byts l) (hll : l.length ≤ 100000) : Gives Try.prog F_Pdigest_Hash_Sum [hashV l] (.iarr .u8 32 (ints (dig l))) := by
  refine hsum_core rfl (byts_drop hl _) (mixAll_length _ _ rfl) (mixAll_words _ _ H256_words) (stR_length l) hll (outB_length _) fun e he => ?_
  have h := dig_st l
  rw [he, show (stR l).length / 64 = 0 by rw [stR_length]; omega, Nat.zero_add] at h
  exact h
end Go.Proofs.Ytjbiekcldkjgjaa
