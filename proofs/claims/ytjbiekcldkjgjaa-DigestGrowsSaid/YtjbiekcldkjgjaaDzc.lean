import Derived.Test.YtjbiekcldkjgjaaDy
import Derived.Test.YtjbiekcldkjgjaaVw
/- DigestGrows and DigestPlaces, walked. -/
namespace Go.Proofs.Ytjbiekcldkjgjaa
open Go AVL
attribute [-simp] AV.isAgg aappI aapp alen abuild
set_option linter.unusedVariables false
set_option linter.unusedSimpArgs false
set_option maxRecDepth 8000

theorem w_DigestGrows {L : List (List Nat)} (hL : ∀ b ∈ L, byts b) (hLl : ∀ b ∈ L, b.length < 2 ^ 63) (hn : L.length < 2 ^ 63) : Gives Try.prog F_law03_DigestGrows [.dsl 1 (txts L)] (.bool true) := by
  refine v_law03_DigestGrows (by simp) ?_
  by_cases h1 : 12 < L.length
  · have c1 : (12 : Int) < L.length := by omega
    simp -implicitDefEqProofs [a_law03_DigestGrows, q_law03_DigestGrows_0, q_law03_DigestGrows_1, q_law03_DigestGrows_2, h1, c1]
    refine w_law03_works.call .nil rfl ?_
    simp -implicitDefEqProofs [outOf]
  have c1 : ¬ (12 : Int) < L.length := by omega
  simp -implicitDefEqProofs [a_law03_DigestGrows, q_law03_DigestGrows_0, q_law03_DigestGrows_1, q_law03_DigestGrows_3, h1, c1]
  refine w_digest_New fun h hh hA => ?_
  obtain ⟨X, hX⟩ : ∃ X, H0.set h (hashC H256 .nilS 0) = X := ⟨_, rfl⟩
  rw [hX] at hA ⊢
  simp -implicitDefEqProofs [q_law03_DigestGrows_4, q_law03_DigestGrows_6, q_law03_DigestGrows_7]
  refine X_lp (fun (i : Nat) env B => i ≤ L.length ∧ env 0 = .dsl 1 (txts L) ∧ env 3 = .ptr h 0 ∧ env 5 = .int .i64 i ∧ (L.take i).flatten.length ≤ 200 * i ∧ ∃ r, HashR B h r (L.take i).flatten ∧ AllV B (env 4) (L.take i).flatten h r) (fun i => L.length - i) 0
    ⟨by omega, by simp, by simp, by simp, by simp, .nilS, hA, .inl ⟨by simp, by simp⟩⟩ ?_
  rintro i env B ⟨hi, e0, e3, e5, hlen, r, hr, hv⟩
  by_cases hil : i < L.length
  · have cil : (i : Int) < L.length := by omega
    have hb := hL _ (List.getElem_mem hil)
    have hbl := hLl _ (List.getElem_mem hil)
    obtain ⟨b, hbe⟩ : ∃ b, L[i] = b := ⟨_, rfl⟩
    rw [hbe] at hb hbl
    have hft := flat_take hil
    rw [hbe] at hft
    by_cases h200 : 200 < b.length
    · have c200 : (200 : Int) < b.length := by omega
      simp -implicitDefEqProofs [q_law03_DigestGrows_L16, q_law03_DigestGrows_8, q_law03_DigestGrows_9, q_law03_DigestGrows_10, e0, e5, hil, cil, hbe, c200]
      refine w_law03_works.call .nil rfl ?_
      simp -implicitDefEqProofs [outOf, a_law03_DigestGrows]
    have c200 : ¬ (200 : Int) < b.length := by omega
    obtain ⟨v4, e4⟩ : ∃ v, env 4 = v := ⟨_, rfl⟩
    rw [e4] at hv
    have n4 := hv.agg
    have hlb : byts (L.take i).flatten := flat_byts fun b hb => hL b (List.mem_of_mem_take hb)
    obtain ⟨l, hl⟩ : ∃ l, (L.take i).flatten = l := ⟨_, rfl⟩
    rw [hl] at hft hlen hr hv hlb
    simp -implicitDefEqProofs [q_law03_DigestGrows_L16, q_law03_DigestGrows_8, q_law03_DigestGrows_9, q_law03_DigestGrows_11, e0, e3, e4, e5, hil, cil, hbe, c200]
    refine w_Hash_Add hr hlb hb (by omega) (by omega) fun r' A' hr' hkeep => ?_
    have hv' := hv.keep hkeep
    simp -implicitDefEqProofs [q_law03_DigestGrows_12, e0, e4, e5, hil, cil, hbe, n4]
    refine all_app hv' hr' (by omega) fun v5 C hv5 hr5 n5 => ?_
    simp -implicitDefEqProofs
    have hlb' : byts (l ++ b) := byts_append hlb hb
    have main := fun R k env1 E0 E3 E4 E5 => grows_13 (R := R) (k := k) (env := env1) (B := C) (L := L) (l := l ++ b) (i := i) (h := h) (r := r') (v := v5) hil hft hlb' hL (by simp; omega) (by omega) E0 E3 E4 E5 hr5 hv5
    simp only [X_regionD] at main
    refine main _ _ _ ?_ ?_ ?_ ?_ fun env' hs h52 => ?_
    · simp [e0]
    · simp [e3]
    · simp
    · simp [e5]
    have y0 := hs 0 (by omega)
    have y3 := hs 3 (by omega)
    have y4 := hs 4 (by omega)
    have y5 := hs 5 (by omega)
    simp [e0, e3, e5] at y0 y3 y4 y5
    have wi : IntKind.i64.wrap ((i : Int) + 1) = (i : Int) + 1 := wrap_i64 (by omega)
    simp -implicitDefEqProofs [h52, q_law03_DigestGrows_15, y5, wi]
    refine lp_next (i + 1) ⟨by omega, by simp [y0], by simp [y3], by simp, ?_, r', ?_, ?_⟩ (by omega)
    · have hs2 := congrArg List.length hft
      rw [List.length_flatten, List.map_take, List.length_append] at hs2
      rw [hs2]; omega
    · rw [hft]; exact hr5
    · rw [hft]; simpa [y4] using hv5
  · have cil : ¬ (i : Int) < L.length := by omega
    simp -implicitDefEqProofs [q_law03_DigestGrows_L16, q_law03_DigestGrows_8, q_law03_DigestGrows_16, e0, e5, hil, cil]
    refine w_law03_works.call .nil rfl ?_
    simp -implicitDefEqProofs [outOf, a_law03_DigestGrows]
theorem par_cases (s : List Nat) (hs : byts s) : (∃ l, parA s = l ∧ parC s = 0 ∧ hexL l = s ∧ byts l ∧ l.length = 32) ∨ (parA s = List.replicate 32 0 ∧ parC s = 3) := by
  by_cases h : s.length = 64
  · cases e : parL s with
    | none => right; simp [parA, parC, e]
    | some l =>
      left
      obtain ⟨h1, h2⟩ := hexL_parL e
      have h3 := (parL_some e).1
      exact ⟨l, by simp [parA, h, e], by simp [parC, h, e], h1, h2, by omega⟩
  · right; simp [parA, parC, h]
end Go.Proofs.Ytjbiekcldkjgjaa

/- DigestPlaces, walked. -/
namespace Go.Proofs.Ytjbiekcldkjgjaa
open Go AVL
attribute [-simp] AV.isAgg aappI aapp alen abuild
set_option linter.unusedVariables false
set_option linter.unusedSimpArgs false
set_option maxRecDepth 8000

/-- The heap of addresses, as the law keeps them. -/
structure PlH (A : Heap) (env : AEnv) (a y : List Nat) (s : List Nat) (f : Int) : Prop where
  g : ∃ g4 g9 g11, env 4 = .ptr g4 0 ∧ env 9 = .ptr g9 0 ∧ env 11 = .ptr g11 0 ∧ A g4 = some (.var 39 [.iarr .u8 32 (ints a)]) ∧ A g9 = some (.var 39 [.iarr .u8 32 (ints a)]) ∧ A g11 = some (.var 39 [.iarr .u8 32 (ints y)])
  e3 : env 3 = .str (sN s)
  e10 : env 10 = .int .i64 0
  e12 : env 12 = .int .i64 f
theorem places_5 {R : APost} {k : Kt} {env : AEnv} {A : Heap} {a y s : List Nat} {f : Int} (ha : byts a) (ha32 : a.length = 32) (hs : byts s) (hp : parA s = y) (hf : parC s = f) (H : PlH A env a y s f)
    (hk : ∀ env', (∀ n, n < 13 → env' n = env n) → env' 64 = .bool false → XE Try.prog R .normal k env' A) : X Try.prog R (.regionD q_law03_DigestPlaces_5) k env A := by
  obtain ⟨⟨g4, g9, g11, e4, e9, e11, f4, f9, f11⟩, e3, e10, e12⟩ := H
  rcases par_cases s hs with ⟨l, p1, p2, p3, hl, hl32⟩ | ⟨p1, p2⟩
  · rw [hp] at p1; rw [hf] at p2
    subst p1 p2
    simp -implicitDefEqProofs [q_law03_DigestPlaces_5, e3, e4, e9, e10, e11, e12, f4, f9, f11, ha32, hl32]
    refine (w_digest_Hex ha ha32).call (.cons (.refl _) rfl .nil) rfl ?_
    simp -implicitDefEqProofs [Sub_refl]
    refine (w_ref03_Hex ha ha32).call (.cons (.refl _) rfl .nil) rfl ?_
    simp -implicitDefEqProofs [eqI_self, e3, e4, e9, e10, e11, e12, f4, f9, f11, ha32, hl32]
    refine (w_digest_Hex hl hl32).call (.cons (.refl _) rfl .nil) rfl ?_
    rw [p3]
    simp -implicitDefEqProofs [eqI_self, e3, e12, f11]
    refine hk _ (fun n hn => ?_) (by simp)
    have hne : ∀ k, 13 ≤ k → ¬ n = k := fun k hk => by omega
    simp [hne]
  · rw [hp] at p1; rw [hf] at p2
    subst p1 p2
    simp -implicitDefEqProofs [q_law03_DigestPlaces_5, e3, e4, e9, e10, e11, e12, f4, f9, f11, ha32, -List.reduceReplicate]
    refine (w_digest_Hex ha ha32).call (.cons (.refl _) rfl .nil) rfl ?_
    simp -implicitDefEqProofs [Sub_refl, -List.reduceReplicate]
    refine (w_ref03_Hex ha ha32).call (.cons (.refl _) rfl .nil) rfl ?_
    simp -implicitDefEqProofs [eqI_self, build_0, e3, e4, e9, e10, e11, e12, f4, f9, f11, ha32, -List.reduceReplicate]
    refine hk _ (fun n hn => ?_) (by simp)
    have hne : ∀ k, 13 ≤ k → ¬ n = k := fun k hk => by omega
    simp [hne]
theorem places_7 {R : APost} {k : Kt} {env : AEnv} {A : Heap} {a b : List Nat} {g4 g5 : Nat} (ha : byts a) (ha32 : a.length = 32) (hb : byts b) (hb32 : b.length = 32)
    (e4 : env 4 = .ptr g4 0) (e5 : env 5 = .ptr g5 0) (f4 : A g4 = some (.var 39 [.iarr .u8 32 (ints a)])) (f5 : A g5 = some (.var 39 [.iarr .u8 32 (ints b)]))
    (hk : ∀ env', (∀ n, n < 13 → env' n = env n) → env' 73 = .bool false → XE Try.prog R .normal k env' A) : X Try.prog R (.regionD q_law03_DigestPlaces_7) k env A := by
  have hx := less_hex ha hb (by omega)
  have hlt := sN_less (hexL_byts ha) (hexL_byts hb)
  rw [← lessL_lt, hx] at hlt
  obtain ⟨x, hxx⟩ : ∃ x, lessL a b = x := ⟨_, rfl⟩
  have hL := w_digest_Less ha32 hb32
  rw [hxx] at hlt hL
  simp -implicitDefEqProofs [q_law03_DigestPlaces_7, e4, e5, f4, f5, ha32, hb32]
  refine hL.call (.cons (.refl _) rfl (.cons (.refl _) rfl .nil)) rfl ?_
  simp -implicitDefEqProofs [Sub_refl]
  refine (w_ref03_Hex ha ha32).call (.cons (.refl _) rfl .nil) rfl ?_
  simp -implicitDefEqProofs [Sub_refl]
  refine (w_ref03_Hex hb hb32).call (.cons (.refl _) rfl .nil) rfl ?_
  simp -implicitDefEqProofs [hlt]
  refine hk _ (fun n hn => ?_) (by simp)
  have hne : ∀ k, 13 ≤ k → ¬ n = k := fun k hk => by omega
  simp [hne]
theorem places_9 {R : APost} {k : Kt} {env : AEnv} {A : Heap} {a : List Nat} {g4 : Nat} {o : Int} (ha : byts a) (ha32 : a.length = 32) (h1 : -9223372036854775808 ≤ o) (h2 : o ≤ 9223372036854775807)
    (e4 : env 4 = .ptr g4 0) (e2 : env 2 = .int .i64 o) (f4 : A g4 = some (.var 39 [.iarr .u8 32 (ints a)]))
    (hk : ∀ env', env' 8 = .bool true → XE Try.prog R .normal k env' A) : X Try.prog R (.regionD q_law03_DigestPlaces_9) k env A := by
  simp -implicitDefEqProofs [q_law03_DigestPlaces_9, e4, e2, f4, ha32]
  refine (w_digest_Home ha ha32 h1 h2).call (.cons (.refl _) rfl (.cons (.refl _) rfl .nil)) rfl ?_
  simp -implicitDefEqProofs [Sub_refl]
  refine (w_ref03_Home ha ha32 h1 h2).call (.cons (.refl _) rfl (.cons (.refl _) rfl .nil)) rfl ?_
  simp -implicitDefEqProofs [Sub_refl]
  refine w_law03_works.call .nil rfl ?_
  simp -implicitDefEqProofs [Sub_refl]
  exact hk _ (by simp)
end Go.Proofs.Ytjbiekcldkjgjaa

/- DigestPlaces, walked: the join. -/
namespace Go.Proofs.Ytjbiekcldkjgjaa
open Go AVL
attribute [-simp] AV.isAgg aappI aapp alen abuild
set_option linter.unusedVariables false
set_option linter.unusedSimpArgs false
set_option maxRecDepth 8000

theorem w_DigestPlaces {a b s : List Nat} {o : Int} (ha : byts a) (ha32 : a.length = 32) (hb : byts b) (hb32 : b.length = 32) (h1 : -9223372036854775808 ≤ o) (h2 : o ≤ 9223372036854775807) (hs : byts s) (hsl : s.length < 2 ^ 63) :
    Gives Try.prog F_law03_DigestPlaces [.iarr .u8 32 (ints a), .iarr .u8 32 (ints b), .int .i64 o, .str (sN s)] (.bool true) := by
  refine v_law03_DigestPlaces (by simp) ?_
  simp -implicitDefEqProofs [a_law03_DigestPlaces, q_law03_DigestPlaces_0, ha32, hb32]
  intro g4 g5 n1 n2
  by_cases h200 : 200 < s.length
  · have c200 : (200 : Int) < s.length := by omega
    simp -implicitDefEqProofs [q_law03_DigestPlaces_1, q_law03_DigestPlaces_2, c200, h200]
    refine w_law03_works.call .nil rfl ?_
    simp -implicitDefEqProofs [outOf]
  have c200 : ¬ (200 : Int) < s.length := by omega
  obtain ⟨px1, px2⟩ := par_hex ha ha32
  simp -implicitDefEqProofs [q_law03_DigestPlaces_1, q_law03_DigestPlaces_3, c200, h200, n1, n2, ha32, -List.reduceReplicate]
  refine (w_digest_Hex ha ha32).call (.cons (.refl _) rfl .nil) rfl ?_
  simp -implicitDefEqProofs [-List.reduceReplicate]
  refine (w_digest_Parse (hexL_byts ha) (by simp [ha32])).call (.cons (.refl _) rfl .nil) rfl ?_
  rw [px1, px2]
  simp -implicitDefEqProofs [ha32, -List.reduceReplicate]
  intro g9 m1 m2 m3 m4
  simp -implicitDefEqProofs [q_law03_DigestPlaces_4, -List.reduceReplicate]
  refine (w_digest_Parse hs (by omega)).call (.cons (.refl _) rfl .nil) rfl ?_
  obtain ⟨y, hy⟩ : ∃ y, parA s = y := ⟨_, rfl⟩
  obtain ⟨f, hf⟩ : ∃ y, parC s = y := ⟨_, rfl⟩
  have hyl : y.length = 32 := by
    rcases par_cases s hs with ⟨l, p1, p2, p3, hl, hl32⟩ | ⟨p1, p2⟩
    · rw [← hy, p1]; exact hl32
    · rw [← hy, p1]; rfl
  rw [hy, hf]
  simp -implicitDefEqProofs [hyl, -List.reduceReplicate]
  intro g11 k1 k2 k3 k4 k5 k6
  obtain ⟨B, hB⟩ : ∃ B : Heap, (((H0.set g4 (.var 39 [.iarr .u8 32 (ints a)])).set g5 (.var 39 [.iarr .u8 32 (ints b)])).set g9 (.var 39 [.iarr .u8 32 (ints a)])).set g11 (.var 39 [.iarr .u8 32 (ints y)]) = B := ⟨_, rfl⟩
  have f4 : B g4 = some (.var 39 [.iarr .u8 32 (ints a)]) := by rw [← hB]; simp [*]
  have f5 : B g5 = some (.var 39 [.iarr .u8 32 (ints b)]) := by rw [← hB]; simp [*]
  have f9 : B g9 = some (.var 39 [.iarr .u8 32 (ints a)]) := by rw [← hB]; simp [*]
  have f11 : B g11 = some (.var 39 [.iarr .u8 32 (ints y)]) := by rw [← hB]; simp
  rw [hB]
  have main5 := fun R k env1 E => places_5 (R := R) (k := k) (env := env1) (A := B) ha ha32 hs hy hf E
  simp only [X_regionD] at main5
  refine main5 _ _ _ ⟨⟨g4, g9, g11, by simp, by simp, by simp, f4, f9, f11⟩, by simp, by simp, by simp⟩ fun env1 s1 t1 => ?_
  have y2 := s1 2 (by omega)
  have y4 := s1 4 (by omega)
  have y5 := s1 5 (by omega)
  simp at y2 y4 y5
  simp -implicitDefEqProofs [t1]
  have main7 := fun R k env1 E4 E5 => places_7 (R := R) (k := k) (env := env1) (A := B) ha ha32 hb hb32 E4 E5 f4 f5
  simp only [X_regionD] at main7
  refine main7 _ _ _ y4 y5 fun env2 s2 t2 => ?_
  have z2 := s2 2 (by omega)
  have z4 := s2 4 (by omega)
  rw [y2] at z2; rw [y4] at z4
  simp -implicitDefEqProofs [t2]
  have main9 := fun R k env1 E4 E2 => places_9 (R := R) (k := k) (env := env1) (A := B) ha ha32 h1 h2 E4 E2 f4
  simp only [X_regionD] at main9
  refine main9 _ _ _ z4 z2 fun env3 t3 => ?_
  simp -implicitDefEqProofs [t3, outOf]
end Go.Proofs.Ytjbiekcldkjgjaa

/- What comes in, for the digest's laws. -/
namespace Go.Proofs.Ytjbiekcldkjgjaa
open Go AVL
theorem byts_in : ∀ {zs : List Int}, (∀ n ∈ zs, (Lit.int .u8 n).wf = true) → ∃ a, zs = ints a ∧ byts a
  | [], _ => ⟨[], rfl, by simp [byts]⟩
  | z :: r, h => by
    obtain ⟨l, rfl, hl⟩ := byts_in (zs := r) fun n hn => h n (by simp [hn])
    have hz := h z (by simp)
    simp [Lit.wf, IntKind.min, IntKind.max, IntKind.signed, IntKind.bits] at hz
    refine ⟨z.toNat :: l, ?_, fun x hx => ?_⟩
    · simp [ints]; omega
    · rcases List.mem_cons.1 hx with rfl | hx
      · omega
      · exact hl x hx
theorem txts_in : ∀ {l : List AV}, (∀ x ∈ l, ATy.has (.isl .u8) x) → ∃ L, l = txts L ∧ (∀ b ∈ L, byts b) ∧ ∀ b ∈ L, b.length ≤ maxLen
  | [], _ => ⟨[], rfl, by simp, by simp⟩
  | v :: r, h => by
    obtain ⟨L, rfl, h1, h2⟩ := txts_in (l := r) fun n hn => h n (by simp [hn])
    have hv := h v (by simp)
    unfold ATy.has at hv
    obtain ⟨zs, rfl, hl, hw⟩ := hv
    obtain ⟨b, rfl, hb⟩ := byts_in hw
    refine ⟨b :: L, rfl, ?_, ?_⟩
    · intro x hx
      rcases List.mem_cons.1 hx with rfl | hx
      · exact hb
      · exact h1 x hx
    · intro x hx
      rcases List.mem_cons.1 hx with rfl | hx
      · simpa using hl
      · exact h2 x hx
theorem sN_in (s : ByteArray) : ∃ l, s = sN l ∧ byts l ∧ l.length = s.size := ⟨bytN s, (sN_bytN s).symm, bytN_lt s, by simp⟩
theorem i64_wf {n : Int} (h : (Lit.int .i64 n).wf = true) : -9223372036854775808 ≤ n ∧ n ≤ 9223372036854775807 := by
  simpa [Lit.wf, IntKind.min, IntKind.max, IntKind.signed, IntKind.bits] using h
end Go.Proofs.Ytjbiekcldkjgjaa
