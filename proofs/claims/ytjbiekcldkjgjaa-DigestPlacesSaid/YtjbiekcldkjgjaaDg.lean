/- The walk of the reference's mixed. -/
import Derived.Test.YtjbiekcldkjgjaaDf
namespace Go.Proofs.Ytjbiekcldkjgjaa
open Go AVL
attribute [-simp] abslI
set_option linter.unusedVariables false
set_option linter.unusedSimpArgs false
set_option maxRecDepth 8000

set_option maxHeartbeats 2000000 in
theorem mixed_L22 {s w : List Nat} (hs : Words s) (h8 : s.length = 8) (hw : Words w) (hw64 : w.length = 64) {R : APost} {k : Kt} {env : AEnv} {A : Heap} {g3 g5 g6 : Nat}
    (e1 : env 1 = .isl .u32 (ints K64)) (e3 : env 3 = .ptr g3 0) (e5 : env 5 = .ptr g5 0) (e6 : env 6 = .ptr g6 0)
    (r0 : env 7 = .int .u32 (s.getD 0 0 : Nat)) (r1 : env 8 = .int .u32 (s.getD 1 0 : Nat)) (r2 : env 9 = .int .u32 (s.getD 2 0 : Nat)) (r3 : env 10 = .int .u32 (s.getD 3 0 : Nat))
    (r4 : env 11 = .int .u32 (s.getD 4 0 : Nat)) (r5 : env 12 = .int .u32 (s.getD 5 0 : Nat)) (r6 : env 13 = .int .u32 (s.getD 6 0 : Nat)) (r7 : env 14 = .int .u32 (s.getD 7 0 : Nat)) (e15 : env 15 = .int .i64 0)
    (f5 : A g5 = some (arr64 w))
    (hk : ∀ env', env' 3 = .ptr g3 0 → env' 6 = .ptr g6 0 → env' 7 = .int .u32 ((rndN s w 64).getD 0 0 : Nat) → env' 8 = .int .u32 ((rndN s w 64).getD 1 0 : Nat) → env' 9 = .int .u32 ((rndN s w 64).getD 2 0 : Nat) → env' 10 = .int .u32 ((rndN s w 64).getD 3 0 : Nat) →
      env' 11 = .int .u32 ((rndN s w 64).getD 4 0 : Nat) → env' 12 = .int .u32 ((rndN s w 64).getD 5 0 : Nat) → env' 13 = .int .u32 ((rndN s w 64).getD 6 0 : Nat) → env' 14 = .int .u32 ((rndN s w 64).getD 7 0 : Nat) → XE Try.prog R (.exit 0) k env' A) :
    X Try.prog R (.loop q_ref03_mixed_L22) k env A := by
  refine X_lp (fun (i : Nat) env B => i ≤ 64 ∧ B = A ∧ env 1 = .isl .u32 (ints K64) ∧ env 3 = .ptr g3 0 ∧ env 5 = .ptr g5 0 ∧ env 6 = .ptr g6 0 ∧ env 7 = .int .u32 ((rndN s w i).getD 0 0 : Nat) ∧ env 8 = .int .u32 ((rndN s w i).getD 1 0 : Nat) ∧ env 9 = .int .u32 ((rndN s w i).getD 2 0 : Nat) ∧ env 10 = .int .u32 ((rndN s w i).getD 3 0 : Nat) ∧
      env 11 = .int .u32 ((rndN s w i).getD 4 0 : Nat) ∧ env 12 = .int .u32 ((rndN s w i).getD 5 0 : Nat) ∧ env 13 = .int .u32 ((rndN s w i).getD 6 0 : Nat) ∧ env 14 = .int .u32 ((rndN s w i).getD 7 0 : Nat) ∧ env 15 = .int .i64 i) (fun i => 64 - i) 0
    ⟨by omega, rfl, e1, e3, e5, e6, r0, r1, r2, r3, r4, r5, r6, r7, e15⟩ ?_
  rintro i env B ⟨hi, rfl, e1, e3, e5, e6, r0, r1, r2, r3, r4, r5, r6, r7, e15⟩
  have v8 := rndN_length (w := w) h8 i
  have vw := rndN_words (w := w) hs i
  have hstep : rndN s w (i + 1) = rnd (rndN s w i) (K64.getD i 0) (w.getD i 0) := rfl
  simp -implicitDefEqProofs only [q_ref03_mixed_L22]
  obtain ⟨a, b, c, d, e, f, g, h, hv⟩ := eight v8
  rw [hv] at hstep vw r0 r1 r2 r3 r4 r5 r6 r7
  have ha := vw a (by simp); have hb := vw b (by simp); have hc := vw c (by simp); have hd := vw d (by simp)
  have he := vw e (by simp); have hf := vw f (by simp); have hg := vw g (by simp); have hh := vw h (by simp)
  simp only [List.getD_cons_zero, List.getD_cons_succ] at r0 r1 r2 r3 r4 r5 r6 r7
  unfold arr64 at f5
  by_cases hil : i < 64
  · have hilc : (i : Int) < 64 := by omega
    have hKi : i < K64.length := by rw [K64_length]; exact hil
    have hkk : K64[i] = K64.getD i 0 := by rw [List.getD_eq_getElem?_getD, List.getElem?_eq_getElem hKi]; rfl
    have hww : w[i]?.getD 0 = w.getD i 0 := by rw [List.getD_eq_getElem?_getD]
    have hwi : i < w.length := by omega
    have hwg : w[i] = w.getD i 0 := by rw [List.getD_eq_getElem?_getD, List.getElem?_eq_getElem hwi]; rfl
    obtain ⟨kv, hkv⟩ : ∃ x, K64.getD i 0 = x := ⟨_, rfl⟩
    obtain ⟨wv, hwv⟩ : ∃ x, w.getD i 0 = x := ⟨_, rfl⟩
    rw [hkv] at hkk hstep; rw [hwv] at hww hwg hstep
    have hcn : IntKind.u32.wrap (4294967295 - (e : Int)) = ((4294967295 - e : Nat) : Int) := by
      have : e < 4294967296 := he
      rw [wrap_u32 (by omega)]; omega
    have hch := ch_of he hf hg
    have hmj := maj_of ha hb hc
    have hs1 := Sg1_of he
    have hs0 := Sg0_of ha
    have ht := add5_of h (Sg1 e) (chf e f g) kv wv
    have hu := add2_of (Sg0 a) (maj a b c)
    have hstep' : rndN s w (i + 1) = [((h + Sg1 e + chf e f g + kv + wv) % W32 + (Sg0 a + maj a b c) % W32) % W32, a, b, c, (d + (h + Sg1 e + chf e f g + kv + wv) % W32) % W32, e, f, g] := hstep
    obtain ⟨t, htv⟩ : ∃ t, (h + Sg1 e + chf e f g + kv + wv) % W32 = t := ⟨_, rfl⟩
    obtain ⟨u, huv⟩ : ∃ u, (Sg0 a + maj a b c) % W32 = u := ⟨_, rfl⟩
    rw [htv] at ht hstep'
    rw [huv] at hu hstep'
    have hx := add2_of t u
    have hy := add2_of d t
    obtain ⟨x, hxv⟩ : ∃ x, (t + u) % W32 = x := ⟨_, rfl⟩
    obtain ⟨y, hyv⟩ : ∃ y, (d + t) % W32 = y := ⟨_, rfl⟩
    rw [hxv] at hx hstep'; rw [hyv] at hy hstep'
    obtain ⟨n, hnv⟩ : ∃ n, 4294967295 - e = n := ⟨_, rfl⟩
    rw [hnv] at hcn hch
    simp -implicitDefEqProofs [q_ref03_mixed_10, q_ref03_mixed_11, e1, e3, e5, e6, r0, r1, r2, r3, r4, r5, r6, r7, e15, f5, hkk, hww, hwg, hw64, hilc, hKi, hil, hcn, hch]
    refine (w_right he (m := 6) (by omega) rfl).call (.cons (.refl _) rfl (.cons (.refl _) rfl .nil)) rfl ?_
    simp -implicitDefEqProofs [Sub_refl]
    refine (w_right he (m := 11) (by omega) rfl).call (.cons (.refl _) rfl (.cons (.refl _) rfl .nil)) rfl ?_
    simp -implicitDefEqProofs [Sub_refl]
    refine (w_right he (m := 25) (by omega) rfl).call (.cons (.refl _) rfl (.cons (.refl _) rfl .nil)) rfl ?_
    simp -implicitDefEqProofs [Sub_refl, hs1, ht, q_ref03_mixed_12, r0]
    refine (w_right ha (m := 2) (by omega) rfl).call (.cons (.refl _) rfl (.cons (.refl _) rfl .nil)) rfl ?_
    simp -implicitDefEqProofs [Sub_refl, r0]
    refine (w_right ha (m := 13) (by omega) rfl).call (.cons (.refl _) rfl (.cons (.refl _) rfl .nil)) rfl ?_
    simp -implicitDefEqProofs [Sub_refl, r0]
    refine (w_right ha (m := 22) (by omega) rfl).call (.cons (.refl _) rfl (.cons (.refl _) rfl .nil)) rfl ?_
    simp -implicitDefEqProofs [Sub_refl, hs0, hu, hmj, r0, r1, r2, r3, r4, r5, r6, r7, e15, q_ref03_mixed_13, q_ref03_mixed_14, q_ref03_mixed_15, q_ref03_mixed_16, q_ref03_mixed_17, q_ref03_mixed_18, q_ref03_mixed_19, q_ref03_mixed_20, q_ref03_mixed_21, hx, hy]
    refine lp_next (i + 1) ?_ (by omega)
    rw [hstep']
    refine ⟨by omega, rfl, by simp [e1], by simp [e3], by simp [e5], by simp [e6], by simp, by simp, by simp, by simp, by simp, by simp, by simp, by simp, ?_⟩
    simp
    exact wrap_i64 (by omega)
  · have hie : i = 64 := by omega
    subst hie
    simp -implicitDefEqProofs [q_ref03_mixed_10, e15]
    refine hk _ ?_ ?_ ?_ ?_ ?_ ?_ ?_ ?_ ?_ ?_
    · simp [e3]
    · simp [e6]
    all_goals rw [hv]; simp [r0, r1, r2, r3, r4, r5, r6, r7]
theorem w_ref03_mixed {s w : List Nat} (hs : Words s) (h8 : s.length = 8) (hw : Words w) (hw64 : w.length = 64) : Gives Try.prog F_ref03_mixed [.iarr .u32 8 (ints s), .isl .u32 (ints K64), .iarr .u32 64 (ints w)] (.iarr .u32 8 (ints (sumW s (rndN s w 64)))) := by
  refine v_ref03_mixed (by simp) ?_
  simp -implicitDefEqProofs [a_ref03_mixed, q_ref03_mixed_0]
  intro g3 g5 n1 n2 g6 m1 m2 m3 m4
  obtain ⟨s0, s1, s2, s3, s4, s5, s6, s7, hsv⟩ := eight h8
  have hv64 := eight (rndN_length (w := w) h8 64)
  obtain ⟨v0, v1, v2, v3, v4, v5, v6, v7, hvv⟩ := hv64
  have hsum : sumW s (rndN s w 64) = [(s0 + v0) % W32, (s1 + v1) % W32, (s2 + v2) % W32, (s3 + v3) % W32, (s4 + v4) % W32, (s5 + v5) % W32, (s6 + v6) % W32, (s7 + v7) % W32] := by
    rw [hvv, hsv]; rfl
  rw [hsum]
  have hints : ints s = [(s0 : Int), (s1 : Int), (s2 : Int), (s3 : Int), (s4 : Int), (s5 : Int), (s6 : Int), (s7 : Int)] := by rw [hsv]; rfl
  have a0 := add2_of s0 v0; have a1 := add2_of s1 v1; have a2 := add2_of s2 v2; have a3 := add2_of s3 v3
  have a4 := add2_of s4 v4; have a5 := add2_of s5 v5; have a6 := add2_of s6 v6; have a7 := add2_of s7 v7
  obtain ⟨x0, y0⟩ : ∃ x, (s0 + v0) % W32 = x := ⟨_, rfl⟩
  obtain ⟨x1, y1⟩ : ∃ x, (s1 + v1) % W32 = x := ⟨_, rfl⟩
  obtain ⟨x2, y2⟩ : ∃ x, (s2 + v2) % W32 = x := ⟨_, rfl⟩
  obtain ⟨x3, y3⟩ : ∃ x, (s3 + v3) % W32 = x := ⟨_, rfl⟩
  obtain ⟨x4, y4⟩ : ∃ x, (s4 + v4) % W32 = x := ⟨_, rfl⟩
  obtain ⟨x5, y5⟩ : ∃ x, (s5 + v5) % W32 = x := ⟨_, rfl⟩
  obtain ⟨x6, y6⟩ : ∃ x, (s6 + v6) % W32 = x := ⟨_, rfl⟩
  obtain ⟨x7, y7⟩ : ∃ x, (s7 + v7) % W32 = x := ⟨_, rfl⟩
  rw [y0] at a0; rw [y1] at a1; rw [y2] at a2; rw [y3] at a3; rw [y4] at a4; rw [y5] at a5; rw [y6] at a6; rw [y7] at a7
  rw [y0, y1, y2, y3, y4, y5, y6, y7]
  simp -implicitDefEqProofs [q_ref03_mixed_1, q_ref03_mixed_2, q_ref03_mixed_3, q_ref03_mixed_4, q_ref03_mixed_5, q_ref03_mixed_6, q_ref03_mixed_7, q_ref03_mixed_8, q_ref03_mixed_9, n1, n2, m1, m2, m3, m4, hints]
  refine mixed_L22 hs h8 hw hw64 (g3 := g3) (g5 := g5) (g6 := g6) ?_ ?_ ?_ ?_ ?_ ?_ ?_ ?_ ?_ ?_ ?_ ?_ ?_ ?_ fun env' e3 e6 r0 r1 r2 r3 r4 r5 r6 r7 => ?_
  · simp
  · simp
  · simp
  · simp
  · simp [hsv]
  · simp [hsv]
  · simp [hsv]
  · simp [hsv]
  · simp [hsv]
  · simp [hsv]
  · simp [hsv]
  · simp [hsv]
  · simp
  · simp [n1, n2, m1, m2, m3, m4, arr64]
  rw [hvv] at r0 r1 r2 r3 r4 r5 r6 r7
  simp only [List.getD_cons_zero, List.getD_cons_succ] at r0 r1 r2 r3 r4 r5 r6 r7
  simp -implicitDefEqProofs [q_ref03_mixed_22, e3, e6, r0, r1, r2, r3, r4, r5, r6, r7, n1, n2, m1, m2, m3, m4, a0, a1, a2, a3, a4, a5, a6, a7, outOf]
  rfl
end Go.Proofs.Ytjbiekcldkjgjaa
