/- The walks of the digest's words: spin, spread, and the reference's right and words. -/
import Derived.Test.YtjbiekcldkjgjaaGdig
import Derived.Test.YtjbiekcldkjgjaaDh
import Derived.Test.YtjbiekcldkjgjaaVsm
namespace Go.Proofs.Ytjbiekcldkjgjaa
open Go AVL
set_option linter.unusedVariables false
set_option linter.unusedSimpArgs false
set_option maxRecDepth 4000

theorem shl32 {x : Nat} {n m : Nat} (hm : m ≤ 32) {k : Int} (hk : k = m) : shlI .u32 (x : Int) k = ((x * 2 ^ m % W32 : Nat) : Int) := by
  subst hk
  unfold shlI
  rw [Int.toNat_natCast, show min m IntKind.u32.bits = m from Nat.min_eq_left hm, wrap_u32m]
  have := (Int.natCast_emod (x * 2 ^ m) 4294967296).symm
  rw [Int.natCast_mul, Int.natCast_pow] at this
  exact this
theorem shr32 {x : Nat} {m : Nat} (hm : m ≤ 32) {k : Int} (hk : k = m) : shrI .u32 (x : Int) k = ((x / 2 ^ m : Nat) : Int) := by
  subst hk
  rw [shrI_nat, show min m IntKind.u32.bits = m from Nat.min_eq_left hm]
theorem rot_or {x m : Nat} (hx : x < W32) : bOr .u32 ((x / 2 ^ m : Nat) : Int) ((x * 2 ^ (32 - m) % W32 : Nat) : Int) = ((rot x m : Nat) : Int) :=
  bOr_nat rfl (Nat.lt_of_le_of_lt (Nat.div_le_self _ _) hx) (Nat.mod_lt _ (by decide))
theorem w_spin {x m : Nat} {n : Int} (hx : x < W32) (hm : 0 < m ∧ m < 32) (hn : n = m) : Gives Try.prog F_digest_spin [.int .u32 x, .int .i64 n] (.int .u32 (rot x m)) := by
  refine v_digest_spin (by simp) ?_
  have e1 := shr32 (x := x) (m := m) (by omega) hn
  have e2 : IntKind.i64.wrap (32 - n) = ((32 - m : Nat) : Int) := by rw [wrap_i64 (by omega)]; omega
  have e3 := shl32 (x := x) (n := 0) (m := 32 - m) (by omega) (k := ((32 - m : Nat) : Int)) rfl
  have e4 := rot_or (m := m) hx
  obtain ⟨p, hp⟩ : ∃ p, x / 2 ^ m = p := ⟨_, rfl⟩
  obtain ⟨q, hq⟩ : ∃ q, x * 2 ^ (32 - m) % W32 = q := ⟨_, rfl⟩
  obtain ⟨s, hs⟩ : ∃ s, 32 - m = s := ⟨_, rfl⟩
  rw [hs] at e2 e3 e4 hq
  rw [hp] at e1 e4
  rw [hq] at e3 e4
  have n0 : 0 ≤ n := by omega
  simp -implicitDefEqProofs [a_digest_spin, q_digest_spin_0, q_digest_spin_1, e1, e2, e3, e4, n0]
theorem w_right {x m : Nat} {n : Int} (hx : x < W32) (hm : 0 < m ∧ m < 32) (hn : n = m) : Gives Try.prog F_ref03_right [.int .u32 x, .int .u64 n] (.int .u32 (rot x m)) := by
  refine v_ref03_right (by simp) ?_
  have e1 := shr32 (x := x) (m := m) (by omega) hn
  have e2 : IntKind.u64.wrap (32 - n) = ((32 - m : Nat) : Int) := by rw [wrap_u64 (by omega)]; omega
  have e3 := shl32 (x := x) (n := 0) (m := 32 - m) (by omega) (k := ((32 - m : Nat) : Int)) rfl
  have e4 := rot_or (m := m) hx
  obtain ⟨p, hp⟩ : ∃ p, x / 2 ^ m = p := ⟨_, rfl⟩
  obtain ⟨q, hq⟩ : ∃ q, x * 2 ^ (32 - m) % W32 = q := ⟨_, rfl⟩
  obtain ⟨s, hs⟩ : ∃ s, 32 - m = s := ⟨_, rfl⟩
  rw [hs] at e2 e3 e4 hq
  rw [hp] at e1 e4
  rw [hq] at e3 e4
  have n0 : 0 ≤ n := by omega
  simp -implicitDefEqProofs [a_ref03_right, q_ref03_right_0, q_ref03_right_1, e1, e2, e3, e4, n0]
/-- A row that is filled from the left. -/
theorem fill_setN {l : List Nat} {i n : Nat} (h : i < l.length) (hn : l.length ≤ n) : (l.take i ++ List.replicate (n - i) 0).set i l[i] = l.take (i + 1) ++ List.replicate (n - (i + 1)) 0 := by
  rw [show n - i = (n - (i + 1)) + 1 by omega, List.replicate_succ, List.set_append_right _ _ (by simp; omega), List.length_take, show i - min i l.length = 0 by omega]
  simp only [List.set_cons_zero]
  rw [List.take_succ_eq_append_getElem h, List.append_assoc]; rfl
theorem fill_app {l : List Nat} {i n x : Nat} (h : l.length = i) (hn : i < n) : (l ++ List.replicate (n - i) 0).set i x = l ++ [x] ++ List.replicate (n - (i + 1)) 0 := by
  rw [show n - i = (n - (i + 1)) + 1 by omega, List.replicate_succ, List.set_append_right _ _ (by omega), h, Nat.sub_self]
  simp
theorem bits32 {x : Nat} (h : x < 4294967296) : x < 2 ^ IntKind.u32.bits := by
  have : (2 : Nat) ^ IntKind.u32.bits = 4294967296 := by simp [IntKind.bits]
  rw [this]; exact h
theorem or4 {a b c d : Nat} (ha : a < 256) (hb : b < 256) (hc : c < 256) (hd : d < 256) :
    bOr .u32 (bOr .u32 (bOr .u32 ((a * 16777216 : Nat) : Int) ((b * 65536 : Nat) : Int)) ((c * 256 : Nat) : Int)) (d : Int) = ((a * 16777216 + b * 65536 + c * 256 + d : Nat) : Int) := by
  have key : ∀ (x y k : Nat), y < 2 ^ k → x * 2 ^ k ||| y = x * 2 ^ k + y := fun x y k hy => by
    have := Nat.two_pow_add_eq_or_of_lt (i := k) (b := y) hy x
    rw [Nat.mul_comm]; exact this.symm
  have h1 : a * 16777216 ||| b * 65536 = a * 16777216 + b * 65536 := by
    have := key a (b * 65536) 24 (by omega); simpa using this
  have h2 : a * 16777216 + b * 65536 ||| c * 256 = a * 16777216 + b * 65536 + c * 256 := by
    have := key (a * 256 + b) (c * 256) 16 (by omega)
    rw [show (a * 256 + b) * 2 ^ 16 = a * 16777216 + b * 65536 by omega] at this; exact this
  have h3 : a * 16777216 + b * 65536 + c * 256 ||| d = a * 16777216 + b * 65536 + c * 256 + d := by
    have := key (a * 65536 + b * 256 + c) d 8 (by omega)
    rw [show (a * 65536 + b * 256 + c) * 2 ^ 8 = a * 16777216 + b * 65536 + c * 256 by omega] at this; exact this
  have z1 := bOr_nat (k := .u32) rfl (bits32 (show a * 16777216 < 4294967296 by omega)) (bits32 (show b * 65536 < 4294967296 by omega))
  have z2 := bOr_nat (k := .u32) rfl (bits32 (show a * 16777216 + b * 65536 < 4294967296 by omega)) (bits32 (show c * 256 < 4294967296 by omega))
  have z3 := bOr_nat (k := .u32) rfl (bits32 (show a * 16777216 + b * 65536 + c * 256 < 4294967296 by omega)) (bits32 (show d < 4294967296 by omega))
  rw [z1, h1, z2, h2, z3, h3]
/-- A word of four bytes, as either side makes it. -/
theorem word_of {a b c d : Nat} (ha : a < 256) (hb : b < 256) (hc : c < 256) (hd : d < 256) :
    bOr .u32 (bOr .u32 (bOr .u32 (shlI .u32 (a : Int) 24) (shlI .u32 (b : Int) 16)) (shlI .u32 (c : Int) 8)) (d : Int) = ((a * 16777216 + b * 65536 + c * 256 + d : Nat) : Int) := by
  rw [shl32 (m := 24) (n := 0) (by omega) (k := 24) rfl, shl32 (m := 16) (n := 0) (by omega) (k := 16) rfl, shl32 (m := 8) (n := 0) (by omega) (k := 8) rfl,
    show a * 2 ^ 24 % W32 = a * 16777216 from Nat.mod_eq_of_lt (by show _ < 4294967296; omega), show b * 2 ^ 16 % W32 = b * 65536 from Nat.mod_eq_of_lt (by show _ < 4294967296; omega), show c * 2 ^ 8 % W32 = c * 256 from Nat.mod_eq_of_lt (by show _ < 4294967296; omega)]
  exact or4 ha hb hc hd
theorem first16_get (b : List Nat) {i : Nat} (hi : i < 16) (hl : 4 * i + 3 < b.length) (h : i < (first16 b).length) : (first16 b)[i] = b[4 * i] * 16777216 + b[4 * i + 1] * 65536 + b[4 * i + 2] * 256 + b[4 * i + 3] := by
  simp [first16, word4, List.getD_eq_getElem?_getD, show 4 * i < b.length by omega, show 4 * i + 1 < b.length by omega, show 4 * i + 2 < b.length by omega, hl]
theorem sg0_of {x : Nat} (hx : x < W32) : bXor .u32 (bXor .u32 ((rot x 7 : Nat) : Int) ((rot x 18 : Nat) : Int)) (shrI .u32 (x : Int) 3) = ((sg0 x : Nat) : Int) := by
  rw [shr32 (m := 3) (by omega) (k := 3) rfl, bXor_nat rfl (bits32 (rot_lt 7 hx)) (bits32 (rot_lt 18 hx)), bXor_nat rfl (Nat.xor_lt_two_pow (bits32 (rot_lt 7 hx)) (bits32 (rot_lt 18 hx))) (bits32 (Nat.lt_of_le_of_lt (Nat.div_le_self _ _) hx))]
  rfl
theorem sg1_of {x : Nat} (hx : x < W32) : bXor .u32 (bXor .u32 ((rot x 17 : Nat) : Int) ((rot x 19 : Nat) : Int)) (shrI .u32 (x : Int) 10) = ((sg1 x : Nat) : Int) := by
  rw [shr32 (m := 10) (by omega) (k := 10) rfl, bXor_nat rfl (bits32 (rot_lt 17 hx)) (bits32 (rot_lt 19 hx)), bXor_nat rfl (Nat.xor_lt_two_pow (bits32 (rot_lt 17 hx)) (bits32 (rot_lt 19 hx))) (bits32 (Nat.lt_of_le_of_lt (Nat.div_le_self _ _) hx))]
  rfl
theorem add4_of (a b c d : Nat) : IntKind.u32.wrap (IntKind.u32.wrap (IntKind.u32.wrap ((a : Int) + (b : Int)) + (c : Int)) + (d : Int)) = (((a + b + c + d) % W32 : Nat) : Int) := by
  rw [wrap_u32m, wrap_u32m, wrap_u32m]
  show _ = (((a + b + c + d) % 4294967296 : Nat) : Int)
  omega
theorem wsN_words {b : List Nat} (hb : byts b) : ∀ j, Words (wsN b j)
  | 0 => by
    intro x hx
    simp only [wsN, first16, List.mem_map, List.mem_range] at hx
    obtain ⟨i, hi, rfl⟩ := hx
    have g : ∀ k, b.getD k 0 < 256 := fun k => by
      rw [List.getD_eq_getElem?_getD]
      cases h : b[k]? with
      | none => simp
      | some y => simpa using hb y (List.mem_of_getElem? h)
    have h0 := g (4 * i); have h1 := g (4 * i + 1); have h2 := g (4 * i + 2); have h3 := g (4 * i + 3)
    show word4 b i < 4294967296
    unfold word4
    omega
  | j + 1 => by
    intro x hx
    simp only [wsN, List.mem_append, List.mem_singleton] at hx
    rcases hx with hx | rfl
    · exact wsN_words hb j x hx
    · exact Nat.mod_lt _ (by decide)
theorem words_getD {l : List Nat} (h : Words l) (k : Nat) : l.getD k 0 < W32 := by
  rw [List.getD_eq_getElem?_getD]
  cases hh : l[k]? with
  | none => simp
  | some y => simpa using h y (List.mem_of_getElem? hh)
set_option maxHeartbeats 1000000 in
theorem spread_L12 {b : List Nat} (hb : byts b) {g2 g3 : Nat} (n1 : ¬g3 = g2) (n2 : ¬g2 = g3) {env : AEnv} (e2 : env 2 = .ptr g2 0) (e3 : env 3 = .ptr g3 0) (e5 : env 5 = .int .i64 16) :
    X Try.prog (fin [ARes.cell 2 (.ia .u32 64) 64] (.iarr .u32 64 (ints (wsN b 48)))) (.loop q_digest_spread_L12) (Kt.blk 2 (Kt.thn ((ACode.region q_digest_spread_12).seq ACode.ret) Kt.done)) env
      ((H0.set g2 (.var 141 [.iarr .u32 64 (List.replicate 64 0)])).set g3 (.var 141 [.iarr .u32 64 (ints (wsN b 0 ++ List.replicate (48 - 0) 0))])) := by
  refine X_lp (fun (j : Nat) env B => j ≤ 48 ∧ env 2 = .ptr g2 0 ∧ env 3 = .ptr g3 0 ∧ env 5 = .int .i64 (16 + j : Nat) ∧ B = (H0.set g2 (.var 141 [.iarr .u32 64 (List.replicate 64 0)])).set g3 (.var 141 [.iarr .u32 64 (ints (wsN b j ++ List.replicate (48 - j) 0))])) (fun j => 48 - j) 0
    ⟨by omega, by simp [e2], by simp [e3], by simp [e5], rfl⟩ ?_
  rintro j env B ⟨hj, e2, e3, e5, rfl⟩
  simp -implicitDefEqProofs [q_digest_spread_L12, q_digest_spread_8, e2, e3, e5, -List.reduceReplicate]
  refine ⟨fun hjl => ?_, fun hjl => ?_⟩
  · have hwl := wsN_length b j
    have q16 : IntKind.i64.wrap (16 + (j : Int) - 16) = ((j : Nat) : Int) := by rw [wrap_i64 (by omega)]; omega
    have q15 : IntKind.i64.wrap (16 + (j : Int) - 15) = ((j + 1 : Nat) : Int) := by rw [wrap_i64 (by omega)]; omega
    have q7 : IntKind.i64.wrap (16 + (j : Int) - 7) = ((j + 9 : Nat) : Int) := by rw [wrap_i64 (by omega)]; omega
    have q2 : IntKind.i64.wrap (16 + (j : Int) - 2) = ((j + 14 : Nat) : Int) := by rw [wrap_i64 (by omega)]; omega
    have q1 : IntKind.i64.wrap (16 + (j : Int) + 1) = ((16 + (j + 1) : Nat) : Int) := by rw [wrap_i64 (by omega)]; omega
    obtain ⟨L, hL⟩ : ∃ L, wsN b j ++ List.replicate (48 - j) 0 = L := ⟨_, rfl⟩
    have hLl : L.length = 64 := by rw [← hL]; simp; omega
    rw [hL]
    have rd : ∀ k, k < 16 + j → L[k]?.getD 0 = (wsN b j).getD k 0 := fun k hk => by
      rw [← hL, List.getElem?_append_left (by omega), List.getD_eq_getElem?_getD]
    have hw := wsN_words hb j
    have hN : nextW (wsN b j) j = ((wsN b j).getD j 0 + sg0 ((wsN b j).getD (j + 1) 0) + (wsN b j).getD (j + 9) 0 + sg1 ((wsN b j).getD (j + 14) 0)) % W32 := rfl
    have a0 := words_getD hw j; have a1 := words_getD hw (j + 1); have a9 := words_getD hw (j + 9); have a14 := words_getD hw (j + 14)
    have r0 := rd j (by omega); have r1 := rd (j + 1) (by omega); have r9 := rd (j + 9) (by omega); have r14 := rd (j + 14) (by omega)
    obtain ⟨x0, h0⟩ : ∃ x, (wsN b j).getD j 0 = x := ⟨_, rfl⟩
    obtain ⟨x1, h1⟩ : ∃ x, (wsN b j).getD (j + 1) 0 = x := ⟨_, rfl⟩
    obtain ⟨x9, h9⟩ : ∃ x, (wsN b j).getD (j + 9) 0 = x := ⟨_, rfl⟩
    obtain ⟨x14, h14⟩ : ∃ x, (wsN b j).getD (j + 14) 0 = x := ⟨_, rfl⟩
    rw [h0, h1, h9, h14] at hN
    rw [h0] at a0 r0; rw [h1] at a1 r1; rw [h9] at a9 r9; rw [h14] at a14 r14
    have t1 : ((j : Int) + 1).toNat = j + 1 := by omega
    have t9 : ((j : Int) + 9).toNat = j + 9 := by omega
    have t14 : ((j : Int) + 14).toNat = j + 14 := by omega
    simp -implicitDefEqProofs [q_digest_spread_9, q_digest_spread_10, q_digest_spread_11, e2, e3, e5, q16, q15, q7, q2, q1, hLl, t1, t9, t14, r0, r1, r9, r14, -List.reduceReplicate]
    refine ⟨by omega, by omega, by omega, by omega, by omega, by omega, by omega, ?_⟩
    refine (w_spin a1 (m := 7) (by omega) rfl).call (.cons (.refl _) rfl (.cons (.refl _) rfl .nil)) rfl ?_
    simp -implicitDefEqProofs [Sub_refl]
    refine (w_spin a1 (m := 18) (by omega) rfl).call (.cons (.refl _) rfl (.cons (.refl _) rfl .nil)) rfl ?_
    simp -implicitDefEqProofs [Sub_refl, sg0_of a1]
    refine (w_spin a14 (m := 17) (by omega) rfl).call (.cons (.refl _) rfl (.cons (.refl _) rfl .nil)) rfl ?_
    simp -implicitDefEqProofs [Sub_refl]
    refine (w_spin a14 (m := 19) (by omega) rfl).call (.cons (.refl _) rfl (.cons (.refl _) rfl .nil)) rfl ?_
    have hq := add4_of x0 (sg0 x1) x9 (sg1 x14)
    obtain ⟨y, hy⟩ : ∃ y, nextW (wsN b j) j = y := ⟨_, rfl⟩
    rw [← hN, hy] at hq
    have t16 : (16 + (j : Int)).toNat = 16 + j := by omega
    have hset : L.set (16 + j) y = wsN b (j + 1) ++ List.replicate (47 - j) 0 := by
      have := fill_app (x := nextW (wsN b j) j) hwl (show 16 + j < 64 by omega)
      rw [show 64 - (16 + j) = 48 - j by omega, hL, show 64 - (16 + j + 1) = 47 - j by omega, hy] at this
      rw [this, ← hy]; rfl
    simp -implicitDefEqProofs [Sub_refl, sg1_of a14, e3, e5, hLl, hq, q1, t16, hset, -List.reduceReplicate]
    refine ⟨by omega, by omega, ?_⟩
    refine lp_next (j + 1) ⟨by omega, by simp [e2], by simp [e3], ?_, by rw [show 48 - (j + 1) = 47 - j by omega]⟩ (by omega)
    simp
    try omega
  · have hje : j = 48 := by omega
    subst hje
    simp -implicitDefEqProofs [q_digest_spread_12, e2, e3, n1, n2, outOf, -List.reduceReplicate]
theorem w_digest_spread {b : List Nat} (hb : byts b) (hl : b.length = 64) : Gives Try.prog F_digest_spread [.isl .u8 (ints b)] (.iarr .u32 64 (ints (wsN b 48))) := by
  refine v_digest_spread (by simp) ?_
  simp -implicitDefEqProofs [a_digest_spread, q_digest_spread_0, q_digest_spread_1, q_digest_spread_2, -List.reduceReplicate]
  intro g2 g3 n1 n2
  have h0 : List.replicate 64 (0 : Int) = ints ((first16 b).take 0 ++ List.replicate (64 - 0) 0) := by rw [List.take_zero, List.nil_append]; exact (List.map_replicate (f := fun (n : Nat) => (n : Int))).symm
  have hf : (first16 b).length = 16 := by simp [first16]
  refine X_lp (fun (i : Nat) env B => i ≤ 16 ∧ env 0 = .isl .u8 (ints b) ∧ env 2 = .ptr g2 0 ∧ env 3 = .ptr g3 0 ∧ env 8 = .int .i64 i ∧ B = (H0.set g2 (.var 141 [.iarr .u32 64 (List.replicate 64 0)])).set g3 (.var 141 [.iarr .u32 64 (ints ((first16 b).take i ++ List.replicate (64 - i) 0))])) (fun i => 16 - i) 0
    ⟨by omega, by simp, by simp, by simp, by simp, by rw [← h0]⟩ ?_
  · rintro i env B ⟨hi, e0, e2, e3, e8, rfl⟩
    simp -implicitDefEqProofs [q_digest_spread_L7, q_digest_spread_3, e0, e2, e3, e8, -List.reduceReplicate]
    refine ⟨fun hil => ?_, fun hil => ?_⟩
    · have i0 : 4 * i < b.length := by omega
      have i1 : 4 * i + 1 < b.length := by omega
      have i2 : 4 * i + 2 < b.length := by omega
      have i3 : 4 * i + 3 < b.length := by omega
      have w0 : IntKind.i64.wrap (4 * (i : Int)) = 4 * (i : Int) := wrap_i64 (by omega)
      have w1 : IntKind.i64.wrap (4 * (i : Int) + 1) = 4 * (i : Int) + 1 := wrap_i64 (by omega)
      have w2 : IntKind.i64.wrap (4 * (i : Int) + 2) = 4 * (i : Int) + 2 := wrap_i64 (by omega)
      have w3 : IntKind.i64.wrap (4 * (i : Int) + 3) = 4 * (i : Int) + 3 := wrap_i64 (by omega)
      have t0 : (4 * (i : Int)).toNat = 4 * i := by omega
      have t1 : (4 * (i : Int) + 1).toNat = 4 * i + 1 := by omega
      have t2 : (4 * (i : Int) + 2).toNat = 4 * i + 2 := by omega
      have t3 : (4 * (i : Int) + 3).toNat = 4 * i + 3 := by omega
      have c0 := hb _ (List.getElem_mem i0)
      have c1 := hb _ (List.getElem_mem i1)
      have c2 := hb _ (List.getElem_mem i2)
      have c3 := hb _ (List.getElem_mem i3)
      have i16 : i < (first16 b).length := by omega
      have hw := word_of c0 c1 c2 c3
      rw [← first16_get b (by omega) i3 i16] at hw
      have y0 : IntKind.u32.wrap ((b[4 * i] : Nat) : Int) = ((b[4 * i] : Nat) : Int) := wrap_u32 (by omega)
      have y1 : IntKind.u32.wrap ((b[4 * i + 1] : Nat) : Int) = ((b[4 * i + 1] : Nat) : Int) := wrap_u32 (by omega)
      have y2 : IntKind.u32.wrap ((b[4 * i + 2] : Nat) : Int) = ((b[4 * i + 2] : Nat) : Int) := wrap_u32 (by omega)
      have y3 : IntKind.u32.wrap ((b[4 * i + 3] : Nat) : Int) = ((b[4 * i + 3] : Nat) : Int) := wrap_u32 (by omega)
      have hfs := fill_setN i16 (show (first16 b).length ≤ 64 by omega)
      have wi : IntKind.i64.wrap ((i : Int) + 1) = (i : Int) + 1 := wrap_i64 (by omega)
      simp -implicitDefEqProofs [q_digest_spread_4, q_digest_spread_5, q_digest_spread_6, e0, e2, e3, e8, w0, w1, w2, w3, t0, t1, t2, t3, i0, i1, i2, i3, hil, y0, y1, y2, y3, hw, hfs, wi, -List.reduceReplicate]
      refine ⟨by omega, by omega, by omega, by omega, by omega, by omega, by omega, by omega, by omega, by rw [hf]; omega, ?_⟩
      exact lp_next (i + 1) ⟨by omega, by simp [e0], by simp [e2], by simp [e3], by simp, by rw [show 64 - (i + 1) = 63 - i by omega]⟩ (by omega)
    · have hie : i = 16 := by omega
      subst hie
      have hws : (first16 b).take 16 ++ List.replicate (64 - 16) 0 = wsN b 0 ++ List.replicate (48 - 0) 0 := by rw [List.take_of_length_le (by omega)]; rfl
      rw [hws]
      simp -implicitDefEqProofs [q_digest_spread_7, -List.reduceReplicate]
      refine spread_L12 hb n1 n2 ?_ ?_ ?_
      · simp [e2]
      · simp [e3]
      · simp
end Go.Proofs.Ytjbiekcldkjgjaa
