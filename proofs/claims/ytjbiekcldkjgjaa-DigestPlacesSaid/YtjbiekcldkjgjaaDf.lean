/- The walk of mix. -/
import Derived.Test.YtjbiekcldkjgjaaDe
namespace Go.Proofs.Ytjbiekcldkjgjaa
open Go AVL
attribute [-simp] abslI
set_option linter.unusedVariables false
set_option linter.unusedSimpArgs false
set_option maxRecDepth 8000

def arr8 (l : List Nat) : Cont := .var 138 [.iarr .u32 8 (ints l)]
def arr64 (l : List Nat) : Cont := .var 141 [.iarr .u32 64 (ints l)]
theorem wsN48_length (b : List Nat) : (wsN b 48).length = 64 := by simp
set_option maxHeartbeats 2000000 in
theorem mix_L10 {s w : List Nat} (hs : Words s) (h8 : s.length = 8) (hw : Words w) (hw64 : w.length = 64) {R : APost} {k : Kt} {env : AEnv} {A : Heap} {g2 g4 g5 g6 g7 : Nat}
    (e2 : env 2 = .ptr g2 0) (e4 : env 4 = .ptr g4 0) (e5 : env 5 = .ptr g5 0) (e6 : env 6 = .ptr g6 0) (e7 : env 7 = .ptr g7 0) (e18 : env 18 = .int .i64 0)
    (f2 : A g2 = some (arr8 s)) (f4 : A g4 = some (arr8 (List.replicate 8 0))) (f5 : A g5 = some (arr64 w)) (f6 : A g6 = some (arr64 K64)) (f7 : A g7 = some (arr8 s))
    (n2 : g2 ≠ g7) (n4 : g4 ≠ g7) (n5 : g5 ≠ g7) (n6 : g6 ≠ g7)
    (hk : ∀ env' B, env' 2 = .ptr g2 0 → env' 4 = .ptr g4 0 → env' 7 = .ptr g7 0 → B g2 = some (arr8 s) → B g4 = some (arr8 (List.replicate 8 0)) → B g7 = some (arr8 (rndN s w 64)) → XE Try.prog R (.exit 0) k env' B) :
    X Try.prog R (.loop q_digest_mix_L10) k env A := by
  refine X_lp (fun (i : Nat) env B => i ≤ 64 ∧ env 2 = .ptr g2 0 ∧ env 4 = .ptr g4 0 ∧ env 5 = .ptr g5 0 ∧ env 6 = .ptr g6 0 ∧ env 7 = .ptr g7 0 ∧ env 18 = .int .i64 i ∧
      B g2 = some (arr8 s) ∧ B g4 = some (arr8 (List.replicate 8 0)) ∧ B g5 = some (arr64 w) ∧ B g6 = some (arr64 K64) ∧ B g7 = some (arr8 (rndN s w i))) (fun i => 64 - i) 0
    ⟨by omega, e2, e4, e5, e6, e7, e18, f2, f4, f5, f6, f7⟩ ?_
  rintro i env B ⟨hi, e2, e4, e5, e6, e7, e18, f2, f4, f5, f6, f7⟩
  have v8 := rndN_length (w := w) h8 i
  have vw := rndN_words (w := w) hs i
  have hstep : rndN s w (i + 1) = rnd (rndN s w i) (K64.getD i 0) (w.getD i 0) := rfl
  obtain ⟨a, b, c, d, e, f, g, h, hv⟩ := eight v8
  rw [hv] at hstep vw
  have ha := vw a (by simp); have hb := vw b (by simp); have hc := vw c (by simp); have hd := vw d (by simp)
  have he := vw e (by simp); have hf := vw f (by simp); have hg := vw g (by simp); have hh := vw h (by simp)
  have fk6 := f6
  unfold arr64 at f5 fk6
  have f7' := f7
  rw [hv] at f7'
  unfold arr8 at f7'
  have hints : ints [a, b, c, d, e, f, g, h] = [(a : Int), (b : Int), (c : Int), (d : Int), (e : Int), (f : Int), (g : Int), (h : Int)] := rfl
  rw [hints] at f7'
  simp -implicitDefEqProofs [q_digest_mix_L10, q_digest_mix_3, e2, e4, e5, e6, e7, e18]
  refine ⟨fun hil => ?_, fun hil => ?_⟩
  · have hkk : K64[i]?.getD 0 = K64.getD i 0 := by rw [List.getD_eq_getElem?_getD]
    have hww : w[i]?.getD 0 = w.getD i 0 := by rw [List.getD_eq_getElem?_getD]
    obtain ⟨kv, hkv⟩ : ∃ x, K64.getD i 0 = x := ⟨_, rfl⟩
    obtain ⟨wv, hwv⟩ : ∃ x, w.getD i 0 = x := ⟨_, rfl⟩
    rw [hkv] at hkk hstep; rw [hwv] at hww hstep
    have b64 : (i : Int) < 64 := by omega
    have hsg : (if IntKind.u32.signed = true then (-1 : Int) else IntKind.u32.max) = 4294967295 := by decide
    have hcn := not_of he
    have hch := ch_of he hf hg
    have hmj := maj_of ha hb hc
    have hs1 := Sg1_of he
    have hs0 := Sg0_of ha
    have ht := add5_of h (Sg1 e) (chf e f g) kv wv
    have hu := add2_of (Sg0 a) (maj a b c)
    have hstep' : rndN s w (i + 1) = [((h + Sg1 e + chf e f g + kv + wv) % W32 + (Sg0 a + maj a b c) % W32) % W32, a, b, c, (d + (h + Sg1 e + chf e f g + kv + wv) % W32) % W32, e, f, g] := hstep
    obtain ⟨t, htv⟩ : ∃ t, (h + Sg1 e + chf e f g + kv + wv) % W32 = t := ⟨_, rfl⟩
    obtain ⟨u, huv⟩ : ∃ u, (Sg0 a + maj a b c) % W32 = u := ⟨_, rfl⟩
    rw [htv] at ht hstep'
    rw [huv] at hu hstep'
    have hx := add2_of t u
    have hy := add2_of d t
    obtain ⟨x, hxv⟩ : ∃ x, (t + u) % W32 = x := ⟨_, rfl⟩
    obtain ⟨y, hyv⟩ : ∃ y, (d + t) % W32 = y := ⟨_, rfl⟩
    rw [hxv] at hx hstep'; rw [hyv] at hy hstep'
    simp -implicitDefEqProofs [q_digest_mix_4, q_digest_mix_5, q_digest_mix_6, e5, e6, e7, e18, f5, fk6, f7', hkk, hww, hw64, K64_length, b64, hil, hsg, hcn, hch]
    refine (w_spin he (m := 6) (by omega) rfl).call (.cons (.refl _) rfl (.cons (.refl _) rfl .nil)) rfl ?_
    simp -implicitDefEqProofs [Sub_refl]
    refine (w_spin he (m := 11) (by omega) rfl).call (.cons (.refl _) rfl (.cons (.refl _) rfl .nil)) rfl ?_
    simp -implicitDefEqProofs [Sub_refl]
    refine (w_spin he (m := 25) (by omega) rfl).call (.cons (.refl _) rfl (.cons (.refl _) rfl .nil)) rfl ?_
    simp -implicitDefEqProofs [Sub_refl, hs1, ht, q_digest_mix_7, e7, f7', hmj]
    refine (w_spin ha (m := 2) (by omega) rfl).call (.cons (.refl _) rfl (.cons (.refl _) rfl .nil)) rfl ?_
    simp -implicitDefEqProofs [Sub_refl]
    refine (w_spin ha (m := 13) (by omega) rfl).call (.cons (.refl _) rfl (.cons (.refl _) rfl .nil)) rfl ?_
    simp -implicitDefEqProofs [Sub_refl]
    refine (w_spin ha (m := 22) (by omega) rfl).call (.cons (.refl _) rfl (.cons (.refl _) rfl .nil)) rfl ?_
    simp -implicitDefEqProofs [Sub_refl, hs0, hu, q_digest_mix_8, q_digest_mix_9, e7, e18, f7', hx, hy]
    refine lp_next (i + 1) ⟨by omega, by simp [e2], by simp [e4], by simp [e5], by simp [e6], by simp [e7], ?_, by simp [n2, f2], by simp [n4, f4], by simp [n5, f5, arr64], by simp [n6, f6], ?_⟩ (by omega)
    · simp
      exact wrap_i64 (by omega)
    · rw [hstep']; simp [arr8, ints]
  · have hie : i = 64 := by omega
    subst hie
    refine hk _ _ ?_ ?_ ?_ f2 f4 f7
    · simp [e2]
    · simp [e4]
    · simp [e7]
theorem mix_L15 {s v : List Nat} (h8 : s.length = 8) (hv8 : v.length = 8) {R : APost} {k : Kt} {env : AEnv} {A : Heap} {g2 g4 g7 : Nat}
    (e2 : env 2 = .ptr g2 0) (e4 : env 4 = .ptr g4 0) (e7 : env 7 = .ptr g7 0) (e100 : env 100 = .int .i64 0)
    (f2 : A g2 = some (arr8 s)) (f4 : A g4 = some (arr8 (List.replicate 8 0))) (f7 : A g7 = some (arr8 v)) (n2 : g7 ≠ g2) (n4 : g4 ≠ g2)
    (hk : ∀ env' B, env' 2 = .ptr g2 0 → env' 4 = .ptr g4 0 → B g2 = some (arr8 (sumW s v)) → B g4 = some (arr8 (List.replicate 8 0)) → XE Try.prog R (.exit 2) k env' B) :
    X Try.prog R (.loop q_digest_mix_L15) k env A := by
  have hsl : (sumW s v).length = 8 := by simp [sumW]
  refine X_lp (fun (i : Nat) env B => i ≤ 8 ∧ env 2 = .ptr g2 0 ∧ env 4 = .ptr g4 0 ∧ env 7 = .ptr g7 0 ∧ env 100 = .int .i64 i ∧ B g2 = some (arr8 ((sumW s v).take i ++ s.drop i)) ∧ B g4 = some (arr8 (List.replicate 8 0)) ∧ B g7 = some (arr8 v)) (fun i => 8 - i) 0
    ⟨by omega, e2, e4, e7, e100, by simpa using f2, f4, f7⟩ ?_
  rintro i env B ⟨hi, e2, e4, e7, e100, f2, f4, f7⟩
  simp -implicitDefEqProofs [q_digest_mix_L15, q_digest_mix_11, e2, e4, e7, e100]
  refine ⟨fun hil => ?_, fun hil => ?_⟩
  · have hLl : ((sumW s v).take i ++ s.drop i).length = 8 := by simp [hsl]; omega
    have r2 : ((sumW s v).take i ++ s.drop i)[i]?.getD 0 = s.getD i 0 := by
      rw [List.getElem?_append_right (by simp [hsl]; omega), List.getElem?_drop, List.getD_eq_getElem?_getD]
      congr 2; simp [hsl]; omega
    have r7 : v[i]?.getD 0 = v.getD i 0 := by rw [List.getD_eq_getElem?_getD]
    obtain ⟨x, hx⟩ : ∃ x, s.getD i 0 = x := ⟨_, rfl⟩
    obtain ⟨y, hy⟩ : ∃ x, v.getD i 0 = x := ⟨_, rfl⟩
    rw [hx] at r2; rw [hy] at r7
    have ha := add2_of x y
    have hsi : (sumW s v)[i]'(by omega) = (x + y) % W32 := by simp [sumW, ← hx, ← hy]
    obtain ⟨z, hz⟩ : ∃ z, (x + y) % W32 = z := ⟨_, rfl⟩
    rw [hz] at ha hsi
    have hset : ((sumW s v).take i ++ s.drop i).set i z = (sumW s v).take (i + 1) ++ s.drop (i + 1) := by
      rw [List.set_append_right _ _ (by simp [hsl]; omega), List.length_take, hsl, show i - min i 8 = 0 by omega, List.drop_eq_getElem_cons (show i < s.length by omega), List.set_cons_zero,
        List.take_succ_eq_append_getElem (show i < (sumW s v).length by omega), hsi, List.append_assoc]; rfl
    obtain ⟨L, hL⟩ : ∃ L, (sumW s v).take i ++ s.drop i = L := ⟨_, rfl⟩
    rw [hL] at f2 hLl r2 hset
    have b8 : (i : Int) < 8 := by omega
    unfold arr8 at f2 f7
    have wi : IntKind.i64.wrap ((i : Int) + 1) = (i : Int) + 1 := wrap_i64 (by omega)
    simp -implicitDefEqProofs [q_digest_mix_12, q_digest_mix_13, q_digest_mix_14, e2, e4, e7, e100, f2, f7, hLl, hv8, r2, r7, b8, ha, hset, hil, wi]
    refine lp_next (i + 1) ⟨by omega, by simp [e2], by simp [e4], by simp [e7], by simp, by simp [arr8], by simp [n4, f4], by simp [n2, f7, arr8]⟩ (by omega)
  · have hie : i = 8 := by omega
    subst hie
    rw [List.take_of_length_le (by omega), List.drop_of_length_le (by omega), List.append_nil] at f2
    refine hk _ _ ?_ ?_ f2 f4
    · simp [e2]
    · simp [e4]
theorem w_digest_mix {s b : List Nat} (hs : Words s) (h8 : s.length = 8) (hb : byts b) (hbl : b.length = 64) : Gives Try.prog F_digest_mix [.iarr .u32 8 (ints s), .isl .u8 (ints b)] (.iarr .u32 8 (ints (mixB s b))) := by
  refine v_digest_mix (by simp) ?_
  simp -implicitDefEqProofs [a_digest_mix, q_digest_mix_0, q_digest_mix_1, q_digest_mix_2, -List.reduceReplicate]
  intro g2 g4 n1 n2
  simp -implicitDefEqProofs [n1, n2, -List.reduceReplicate]
  refine (w_digest_spread hb hbl).call (.cons (.refl _) rfl .nil) rfl ?_
  simp -implicitDefEqProofs [Sub_refl, -List.reduceReplicate]
  refine w_digest_rounds.call .nil rfl ?_
  simp -implicitDefEqProofs [Sub_refl, -List.reduceReplicate]
  intro g5 a1 a2 a3 a4 g6 b1 b2 b3 b4 b5 b6 g7 c1 c2 c3 c4 c5 c6 c7 c8
  simp -implicitDefEqProofs [n1, n2, a1, a2, a3, a4, b1, b2, b3, b4, b5, b6, c1, c2, c3, c4, c5, c6, c7, c8, K64_length, -List.reduceReplicate]
  have z8 : ([0, 0, 0, 0, 0, 0, 0, 0] : List Int) = ints (List.replicate 8 0) := rfl
  refine mix_L10 hs h8 (wsN_words hb 48) (wsN48_length b) (g2 := g2) (g4 := g4) (g5 := g5) (g6 := g6) (g7 := g7) ?_ ?_ ?_ ?_ ?_ ?_ ?_ ?_ ?_ ?_ ?_ ?_ ?_ ?_ ?_ fun env' B e2 e4 e7 f2 f4 f7 => ?_
  · simp
  · simp
  · simp
  · simp
  · simp
  · simp
  · simp [n1, n2, a1, a2, a3, a4, b1, b2, b3, b4, b5, b6, c1, c2, c3, c4, c5, c6, c7, c8, arr8]
  · simp [n1, n2, a1, a2, a3, a4, b1, b2, b3, b4, b5, b6, c1, c2, c3, c4, c5, c6, c7, c8, arr8, ints]
  · simp [n1, n2, a1, a2, a3, a4, b1, b2, b3, b4, b5, b6, c1, c2, c3, c4, c5, c6, c7, c8, arr64]
  · simp [n1, n2, a1, a2, a3, a4, b1, b2, b3, b4, b5, b6, c1, c2, c3, c4, c5, c6, c7, c8, arr64]
  · simp [arr8]
  · exact fun e => c8 e
  · exact fun e => c6 e
  · exact fun e => c4 e
  · exact fun e => c2 e
  simp -implicitDefEqProofs [q_digest_mix_10, -List.reduceReplicate]
  refine mix_L15 h8 (rndN_length (w := wsN b 48) h8 64) (g2 := g2) (g4 := g4) (g7 := g7) ?_ ?_ ?_ ?_ f2 f4 f7 ?_ ?_ fun env' B e2 e4 f2 f4 => ?_
  · simp [e2]
  · simp [e4]
  · simp [e7]
  · simp
  · exact fun e => c7 e
  · exact fun e => n1 e
  have hml := mixB_length s b
  unfold arr8 at f2 f4
  have hsum : sumW s (rndN s (wsN b 48) 64) = mixB s b := rfl
  rw [hsum] at f2
  simp -implicitDefEqProofs [q_digest_mix_15, e2, e4, f2, f4, hml, outOf, -List.reduceReplicate]
end Go.Proofs.Ytjbiekcldkjgjaa
