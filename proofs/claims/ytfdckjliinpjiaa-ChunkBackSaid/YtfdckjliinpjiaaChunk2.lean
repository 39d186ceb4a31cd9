/- Texts of this claim, in order: Dc Dd De Df Dg Dk Dm Dn Do Dp Mh0 Hb Hc Hd He Hf Hg Hh Hi Hj Hk Hl Hm Hn. -/
import Derived.Test.YtfdckjliinpjiaaChunk1
import Derived.Test.YtfdckjliinpjiaaL3
/- The walk of the reference's words. -/
namespace Go.Proofs.Ytfdckjliinpjiaa
open Go AVL
set_option linter.unusedVariables false
set_option linter.unusedSimpArgs false
set_option maxRecDepth 4000

theorem add4_mul {a b c d : Nat} (ha : a < 256) (hb : b < 256) (hc : c < 256) (hd : d < 256) :
    IntKind.u32.wrap (IntKind.u32.wrap (IntKind.u32.wrap (IntKind.u32.wrap ((a : Int) * 16777216) + IntKind.u32.wrap ((b : Int) * 65536)) + IntKind.u32.wrap ((c : Int) * 256)) + (d : Int)) = ((a * 16777216 + b * 65536 + c * 256 + d : Nat) : Int) := by
  rw [wrap_u32 (n := (a : Int) * 16777216) (by omega), wrap_u32 (n := (b : Int) * 65536) (by omega), wrap_u32 (n := (c : Int) * 256) (by omega), wrap_u32 (n := (a : Int) * 16777216 + (b : Int) * 65536) (by omega),
    wrap_u32 (n := (a : Int) * 16777216 + (b : Int) * 65536 + (c : Int) * 256) (by omega), wrap_u32 (by omega)]
  omega
set_option maxHeartbeats 1000000 in
theorem words_L12 {b : List Nat} (hb : byts b) {g4 g5 : Nat} (n1 : ¬g5 = g4) (n2 : ¬g4 = g5) {env : AEnv} (e4 : env 4 = .ptr g4 0) (e5 : env 5 = .ptr g5 0) (e7 : env 7 = .int .i64 16) :
    X Try.prog (fin [ARes.cell 4 (.ia .u32 64) 64] (.iarr .u32 64 (ints (wsN b 48)))) (.loop q_ref03_words_L12) (Kt.blk 2 (Kt.thn ((ACode.region q_ref03_words_12).seq ACode.ret) Kt.done)) env
      ((H0.set g4 (.var T_64_uint32 [.iarr .u32 64 (List.replicate 64 0)])).set g5 (.var T_64_uint32 [.iarr .u32 64 (ints (wsN b 0 ++ List.replicate (48 - 0) 0))])) := by
  refine X_lp (fun (j : Nat) env B => j ≤ 48 ∧ env 4 = .ptr g4 0 ∧ env 5 = .ptr g5 0 ∧ env 7 = .int .i64 (16 + j : Nat) ∧ B = (H0.set g4 (.var T_64_uint32 [.iarr .u32 64 (List.replicate 64 0)])).set g5 (.var T_64_uint32 [.iarr .u32 64 (ints (wsN b j ++ List.replicate (48 - j) 0))])) (fun j => 48 - j) 0
    ⟨by omega, by simp [e4], by simp [e5], by simp [e7], rfl⟩ ?_
  rintro j env B ⟨hj, e4, e5, e7, rfl⟩
  simp -implicitDefEqProofs [q_ref03_words_L12, q_ref03_words_7, e4, e5, e7, -List.reduceReplicate]
  refine ⟨fun hjl => ?_, fun hjl => ?_⟩
  · have hwl := wsN_length b j
    have q16 : IntKind.i64.wrap (16 + (j : Int) - 16) = ((j : Nat) : Int) := by rw [wrap_i64 (by omega)]; omega
    have q15 : IntKind.i64.wrap (16 + (j : Int) - 15) = ((j + 1 : Nat) : Int) := by rw [wrap_i64 (by omega)]; omega
    have q7 : IntKind.i64.wrap (16 + (j : Int) - 7) = ((j + 9 : Nat) : Int) := by rw [wrap_i64 (by omega)]; omega
    have q2 : IntKind.i64.wrap (16 + (j : Int) - 2) = ((j + 14 : Nat) : Int) := by rw [wrap_i64 (by omega)]; omega
    have q1 : IntKind.i64.wrap (16 + (j : Int) + 1) = ((16 + (j + 1) : Nat) : Int) := by rw [wrap_i64 (by omega)]; omega
    obtain ⟨L, hL⟩ : ∃ L, wsN b j ++ List.replicate (48 - j) 0 = L := ⟨_, rfl⟩
    have hLl : L.length = 64 := by rw [← hL]; simp; omega
    rw [hL]
    have rd : ∀ k, k < 16 + j → L[k]?.getD 0 = (wsN b j).getD k 0 := fun k hk => by
      rw [← hL, List.getElem?_append_left (by omega), List.getD_eq_getElem?_getD]
    have hw := wsN_words hb j
    have hN : nextW (wsN b j) j = ((wsN b j).getD j 0 + sg0 ((wsN b j).getD (j + 1) 0) + (wsN b j).getD (j + 9) 0 + sg1 ((wsN b j).getD (j + 14) 0)) % W32 := rfl
    have a0 := words_getD hw j; have a1 := words_getD hw (j + 1); have a9 := words_getD hw (j + 9); have a14 := words_getD hw (j + 14)
    have r0 := rd j (by omega); have r1 := rd (j + 1) (by omega); have r9 := rd (j + 9) (by omega); have r14 := rd (j + 14) (by omega)
    obtain ⟨x0, h0⟩ : ∃ x, (wsN b j).getD j 0 = x := ⟨_, rfl⟩
    obtain ⟨x1, h1⟩ : ∃ x, (wsN b j).getD (j + 1) 0 = x := ⟨_, rfl⟩
    obtain ⟨x9, h9⟩ : ∃ x, (wsN b j).getD (j + 9) 0 = x := ⟨_, rfl⟩
    obtain ⟨x14, h14⟩ : ∃ x, (wsN b j).getD (j + 14) 0 = x := ⟨_, rfl⟩
    rw [h0, h1, h9, h14] at hN
    rw [h0] at a0 r0; rw [h1] at a1 r1; rw [h9] at a9 r9; rw [h14] at a14 r14
    have t1 : ((j : Int) + 1).toNat = j + 1 := by omega
    have t9 : ((j : Int) + 9).toNat = j + 9 := by omega
    have t14 : ((j : Int) + 14).toNat = j + 14 := by omega
    have b1 : (j : Int) + 1 < 64 := by omega
    have b9 : (j : Int) + 9 < 64 := by omega
    have b14 : (j : Int) + 14 < 64 := by omega
    have b0 : (j : Int) < 64 := by omega
    have p1 : 0 ≤ (j : Int) + 1 := by omega
    have p9 : 0 ≤ (j : Int) + 9 := by omega
    have p14 : 0 ≤ (j : Int) + 14 := by omega
    simp -implicitDefEqProofs [q_ref03_words_8, e4, e5, e7, q15, hLl, t1, r1, b1, p1, -List.reduceReplicate]
    refine (w_right a1 (m := 7) (by omega) rfl).call (.cons (.refl _) rfl (.cons (.refl _) rfl .nil)) rfl ?_
    simp -implicitDefEqProofs [Sub_refl, -List.reduceReplicate]
    refine (w_right a1 (m := 18) (by omega) rfl).call (.cons (.refl _) rfl (.cons (.refl _) rfl .nil)) rfl ?_
    simp -implicitDefEqProofs [Sub_refl, sg0_of a1, q_ref03_words_9, e5, e7, q2, hLl, t14, r14, b14, p14, -List.reduceReplicate]
    refine (w_right a14 (m := 17) (by omega) rfl).call (.cons (.refl _) rfl (.cons (.refl _) rfl .nil)) rfl ?_
    simp -implicitDefEqProofs [Sub_refl, -List.reduceReplicate]
    refine (w_right a14 (m := 19) (by omega) rfl).call (.cons (.refl _) rfl (.cons (.refl _) rfl .nil)) rfl ?_
    have hq := add4_of x0 (sg0 x1) x9 (sg1 x14)
    obtain ⟨y, hy⟩ : ∃ y, nextW (wsN b j) j = y := ⟨_, rfl⟩
    rw [← hN, hy] at hq
    have t16 : (16 + (j : Int)).toNat = 16 + j := by omega
    have hset : L.set (16 + j) y = wsN b (j + 1) ++ List.replicate (47 - j) 0 := by
      have := fill_app (x := nextW (wsN b j) j) hwl (show 16 + j < 64 by omega)
      rw [show 64 - (16 + j) = 48 - j by omega, hL, show 64 - (16 + j + 1) = 47 - j by omega, hy] at this
      rw [this, ← hy]; rfl
    simp -implicitDefEqProofs [Sub_refl, sg1_of a14, q_ref03_words_10, q_ref03_words_11, e5, e7, hLl, hq, q1, q16, q7, t9, r9, r0, b0, b9, p9, t16, hset, -List.reduceReplicate]
    refine ⟨by omega, by omega, ?_⟩
    refine lp_next (j + 1) ⟨by omega, by simp [e4], by simp [e5], ?_, by rw [show 48 - (j + 1) = 47 - j by omega]⟩ (by omega)
    simp
    try omega
  · have hje : j = 48 := by omega
    subst hje
    simp -implicitDefEqProofs [q_ref03_words_12, e4, e5, n1, n2, outOf, -List.reduceReplicate]
set_option maxHeartbeats 1000000 in
/-- The words of the block that begins in a place. -/
theorem w_ref03_words {t b : List Nat} {at' : Nat} (ht : byts t) (hl : at' + 64 ≤ t.length) (hb : b = (t.drop at').take 64) (hm : t.length < 2 ^ 40) : Gives Try.prog F_ref03_words [.isl .u8 (ints t), .int .i64 at'] (.iarr .u32 64 (ints (wsN b 48))) := by
  have hbb : byts b := fun x hx => ht x (List.mem_of_mem_drop (List.mem_of_mem_take (hb ▸ hx)))
  have hbl : b.length = 64 := by rw [hb]; simp; omega
  have get : ∀ k (h : at' + k < t.length) (h' : k < b.length), b[k] = t[at' + k] := fun k h h' => by subst hb; simp
  refine v_ref03_words (by simp) ?_
  simp -implicitDefEqProofs [a_ref03_words, q_ref03_words_0, q_ref03_words_1, q_ref03_words_2, -List.reduceReplicate]
  intro g4 g5 n1 n2
  have h0 : List.replicate 64 (0 : Int) = ints ((first16 b).take 0 ++ List.replicate (64 - 0) 0) := by rw [List.take_zero, List.nil_append]; exact (List.map_replicate (f := fun (n : Nat) => (n : Int))).symm
  have hf : (first16 b).length = 16 := by simp [first16]
  refine X_lp (fun (i : Nat) env B => i ≤ 16 ∧ env 0 = .isl .u8 (ints t) ∧ env 1 = .int .i64 at' ∧ env 4 = .ptr g4 0 ∧ env 5 = .ptr g5 0 ∧ env 6 = .int .i64 i ∧ B = (H0.set g4 (.var T_64_uint32 [.iarr .u32 64 (List.replicate 64 0)])).set g5 (.var T_64_uint32 [.iarr .u32 64 (ints ((first16 b).take i ++ List.replicate (64 - i) 0))])) (fun i => 16 - i) 0
    ⟨by omega, by simp, by simp, by simp, by simp, by simp, by rw [← h0]⟩ ?_
  rintro i env B ⟨hi, e0, e1, e4, e5, e6, rfl⟩
  simp -implicitDefEqProofs [q_ref03_words_L6, q_ref03_words_3, e0, e1, e4, e5, e6, -List.reduceReplicate]
  refine ⟨fun hil => ?_, fun hil => ?_⟩
  · have k0 : 4 * i < b.length := by omega
    have k1 : 4 * i + 1 < b.length := by omega
    have k2 : 4 * i + 2 < b.length := by omega
    have k3 : 4 * i + 3 < b.length := by omega
    have i0 : at' + 4 * i < t.length := by omega
    have i1 : at' + 4 * i + 1 < t.length := by omega
    have i2 : at' + 4 * i + 2 < t.length := by omega
    have i3 : at' + 4 * i + 3 < t.length := by omega
    have w0 : IntKind.i64.wrap (4 * (i : Int)) = 4 * (i : Int) := wrap_i64 (by omega)
    have wa : IntKind.i64.wrap ((at' : Int) + 4 * (i : Int)) = (at' : Int) + 4 * (i : Int) := wrap_i64 (by omega)
    have w1 : IntKind.i64.wrap ((at' : Int) + 4 * (i : Int) + 1) = (at' : Int) + 4 * (i : Int) + 1 := wrap_i64 (by omega)
    have w2 : IntKind.i64.wrap ((at' : Int) + 4 * (i : Int) + 2) = (at' : Int) + 4 * (i : Int) + 2 := wrap_i64 (by omega)
    have w3 : IntKind.i64.wrap ((at' : Int) + 4 * (i : Int) + 3) = (at' : Int) + 4 * (i : Int) + 3 := wrap_i64 (by omega)
    have t0 : ((at' : Int) + 4 * (i : Int)).toNat = at' + 4 * i := by omega
    have t1 : ((at' : Int) + 4 * (i : Int) + 1).toNat = at' + 4 * i + 1 := by omega
    have t2 : ((at' : Int) + 4 * (i : Int) + 2).toNat = at' + 4 * i + 2 := by omega
    have t3 : ((at' : Int) + 4 * (i : Int) + 3).toNat = at' + 4 * i + 3 := by omega
    have c0 := ht _ (List.getElem_mem i0)
    have c1 := ht _ (List.getElem_mem i1)
    have c2 := ht _ (List.getElem_mem i2)
    have c3 := ht _ (List.getElem_mem i3)
    have i16 : i < (first16 b).length := by omega
    have hw := add4_mul c0 c1 c2 c3
    have z0 := get (4 * i) i0 k0
    have z1 := get (4 * i + 1) i1 k1
    have z2 := get (4 * i + 2) i2 k2
    have z3 := get (4 * i + 3) i3 k3
    have hw' : t[at' + 4 * i] * 16777216 + t[at' + 4 * i + 1] * 65536 + t[at' + 4 * i + 2] * 256 + t[at' + 4 * i + 3] = (first16 b)[i] := by
      rw [first16_get b (by omega) k3 i16, z0, z1, z2, z3]; rfl
    rw [hw'] at hw
    have y0 : IntKind.u32.wrap ((t[at' + 4 * i] : Nat) : Int) = ((t[at' + 4 * i] : Nat) : Int) := wrap_u32 (by omega)
    have y1 : IntKind.u32.wrap ((t[at' + 4 * i + 1] : Nat) : Int) = ((t[at' + 4 * i + 1] : Nat) : Int) := wrap_u32 (by omega)
    have y2 : IntKind.u32.wrap ((t[at' + 4 * i + 2] : Nat) : Int) = ((t[at' + 4 * i + 2] : Nat) : Int) := wrap_u32 (by omega)
    have y3 : IntKind.u32.wrap ((t[at' + 4 * i + 3] : Nat) : Int) = ((t[at' + 4 * i + 3] : Nat) : Int) := wrap_u32 (by omega)
    have hfs := fill_setN i16 (show (first16 b).length ≤ 64 by omega)
    have wi : IntKind.i64.wrap ((i : Int) + 1) = (i : Int) + 1 := wrap_i64 (by omega)
    simp -implicitDefEqProofs [q_ref03_words_4, q_ref03_words_5, e0, e1, e4, e5, e6, w0, wa, w1, w2, w3, t0, t1, t2, t3, i0, i1, i2, i3, hil, y0, y1, y2, y3, hw, hfs, wi, -List.reduceReplicate]
    refine ⟨by omega, by omega, by omega, by omega, by omega, by omega, by omega, by omega, by omega, by rw [hf]; omega, ?_⟩
    exact lp_next (i + 1) ⟨by omega, by simp [e0], by simp [e1], by simp [e4], by simp [e5], by simp, by rw [show 64 - (i + 1) = 63 - i by omega]⟩ (by omega)
  · have hie : i = 16 := by omega
    subst hie
    have hws : (first16 b).take 16 ++ List.replicate (64 - 16) 0 = wsN b 0 ++ List.replicate (48 - 0) 0 := by rw [List.take_of_length_le (by omega)]; rfl
    rw [hws]
    simp -implicitDefEqProofs [q_ref03_words_6, -List.reduceReplicate]
    refine words_L12 hbb n1 n2 ?_ ?_ ?_
    · simp [e4]
    · simp [e5]
    · simp
end Go.Proofs.Ytfdckjliinpjiaa

/- A round's words, as either side makes them. -/
namespace Go.Proofs.Ytfdckjliinpjiaa
open Go AVL
set_option linter.unusedVariables false
set_option linter.unusedSimpArgs false
set_option maxRecDepth 4000

theorem not_nat {e : Nat} (he : e < W32) : 4294967295 ^^^ e = 4294967295 - e := by
  have h1 : (BitVec.ofNat 32 e ^^^ BitVec.allOnes 32).toNat = (~~~ BitVec.ofNat 32 e).toNat := by rw [BitVec.xor_allOnes]
  rw [BitVec.toNat_xor, BitVec.toNat_not, BitVec.toNat_allOnes, BitVec.toNat_ofNat, Nat.mod_eq_of_lt he] at h1
  rw [Nat.xor_comm]
  exact h1
theorem Sg1_of {x : Nat} (hx : x < W32) : bXor .u32 (bXor .u32 ((rot x 6 : Nat) : Int) ((rot x 11 : Nat) : Int)) ((rot x 25 : Nat) : Int) = ((Sg1 x : Nat) : Int) := by
  rw [bXor_nat rfl (bits32 (rot_lt 6 hx)) (bits32 (rot_lt 11 hx)), bXor_nat rfl (Nat.xor_lt_two_pow (bits32 (rot_lt 6 hx)) (bits32 (rot_lt 11 hx))) (bits32 (rot_lt 25 hx))]
  rfl
theorem Sg0_of {x : Nat} (hx : x < W32) : bXor .u32 (bXor .u32 ((rot x 2 : Nat) : Int) ((rot x 13 : Nat) : Int)) ((rot x 22 : Nat) : Int) = ((Sg0 x : Nat) : Int) := by
  rw [bXor_nat rfl (bits32 (rot_lt 2 hx)) (bits32 (rot_lt 13 hx)), bXor_nat rfl (Nat.xor_lt_two_pow (bits32 (rot_lt 2 hx)) (bits32 (rot_lt 13 hx))) (bits32 (rot_lt 22 hx))]
  rfl
theorem ch_of {e f g : Nat} (he : e < W32) (hf : f < W32) (hg : g < W32) : bXor .u32 (bAnd .u32 (e : Int) (f : Int)) (bAnd .u32 ((4294967295 - e : Nat) : Int) (g : Int)) = ((chf e f g : Nat) : Int) := by
  have hn : 4294967295 - e < 4294967296 := by omega
  rw [bAnd_nat rfl (bits32 he) (bits32 hf), bAnd_nat rfl (bits32 hn) (bits32 hg), bXor_nat rfl (Nat.and_lt_two_pow _ (bits32 hf)) (Nat.and_lt_two_pow _ (bits32 hg))]
  rfl
theorem not_of {e : Nat} (he : e < W32) : bXor .u32 4294967295 (e : Int) = ((4294967295 - e : Nat) : Int) := by
  have := bXor_nat (k := .u32) rfl (bits32 (show 4294967295 < 4294967296 by decide)) (bits32 he)
  rw [not_nat he] at this
  exact this
theorem maj_of {a b c : Nat} (ha : a < W32) (hb : b < W32) (hc : c < W32) : bXor .u32 (bXor .u32 (bAnd .u32 (a : Int) (b : Int)) (bAnd .u32 (a : Int) (c : Int))) (bAnd .u32 (b : Int) (c : Int)) = ((maj a b c : Nat) : Int) := by
  rw [bAnd_nat rfl (bits32 ha) (bits32 hb), bAnd_nat rfl (bits32 ha) (bits32 hc), bAnd_nat rfl (bits32 hb) (bits32 hc), bXor_nat rfl (Nat.and_lt_two_pow _ (bits32 hb)) (Nat.and_lt_two_pow _ (bits32 hc)),
    bXor_nat rfl (Nat.xor_lt_two_pow (Nat.and_lt_two_pow _ (bits32 hb)) (Nat.and_lt_two_pow _ (bits32 hc))) (Nat.and_lt_two_pow _ (bits32 hc))]
  rfl
theorem add5_of (a b c d e : Nat) : IntKind.u32.wrap (IntKind.u32.wrap (IntKind.u32.wrap (IntKind.u32.wrap ((a : Int) + (b : Int)) + (c : Int)) + (d : Int)) + (e : Int)) = (((a + b + c + d + e) % W32 : Nat) : Int) := by
  rw [wrap_u32m, wrap_u32m, wrap_u32m, wrap_u32m]
  show _ = (((a + b + c + d + e) % 4294967296 : Nat) : Int)
  omega
theorem add2_of (a b : Nat) : IntKind.u32.wrap ((a : Int) + (b : Int)) = (((a + b) % W32 : Nat) : Int) := by
  rw [wrap_u32m]
  show _ = (((a + b) % 4294967296 : Nat) : Int)
  omega
theorem rnd_words {v : List Nat} (k w : Nat) (hv : Words v) : Words (rnd v k w) := by
  have g := words_getD hv
  intro x hx
  simp only [rnd, List.mem_cons, List.not_mem_nil, or_false] at hx
  rcases hx with rfl | rfl | rfl | rfl | rfl | rfl | rfl | rfl <;> first | exact Nat.mod_lt _ (by decide) | exact g _
@[simp] theorem rnd_length (v : List Nat) (k w : Nat) : (rnd v k w).length = 8 := rfl
theorem rndN_words {v w : List Nat} (hv : Words v) : ∀ i, Words (rndN v w i)
  | 0 => hv
  | i + 1 => rnd_words _ _ (rndN_words hv i)
theorem rndN_length {v w : List Nat} (hv : v.length = 8) : ∀ i, (rndN v w i).length = 8
  | 0 => hv
  | i + 1 => rfl
theorem eight {l : List Nat} (h : l.length = 8) : ∃ a b c d e f g i, l = [a, b, c, d, e, f, g, i] := by
  match l, h with
  | [a, b, c, d, e, f, g, i], _ => exact ⟨a, b, c, d, e, f, g, i, rfl⟩
theorem K64_words : Words K64 := by unfold Words; decide +kernel
theorem K64_length : K64.length = 64 := by decide +kernel
theorem mixB_words (s b : List Nat) : Words (mixB s b) := by
  intro x hx
  simp only [mixB, sumW, List.mem_map, List.mem_range] at hx
  obtain ⟨i, _, rfl⟩ := hx
  exact Nat.mod_lt _ (by decide)
@[simp] theorem mixB_length (s b : List Nat) : (mixB s b).length = 8 := by simp [mixB, sumW]
theorem mixAll_words : ∀ (n : Nat) {s : List Nat} (b : List Nat), Words s → Words (mixAll s n b)
  | 0, s, b, h => h
  | n + 1, s, b, h => mixAll_words n _ (mixB_words _ _)
theorem mixAll_length : ∀ (n : Nat) {s : List Nat} (b : List Nat), s.length = 8 → (mixAll s n b).length = 8
  | 0, s, b, h => h
  | n + 1, s, b, h => mixAll_length n _ (mixB_length _ _)
theorem H256_words : Words H256 := by unfold Words; decide
end Go.Proofs.Ytfdckjliinpjiaa

/- The numbers of the rounds; the walks of mix and of the reference's mixed. -/
namespace Go.Proofs.Ytfdckjliinpjiaa
open Go AVL
set_option linter.unusedVariables false
set_option linter.unusedSimpArgs false
set_option maxRecDepth 8000

theorem build_K (env : AEnv) (A : Heap) (K : AV → Heap → Prop) : abuild (.ia .u32 64) [(.iarr .u32 64 (List.replicate 64 0))] [(0, (1, (.v (.int .u32 1116352408)))), (1, (1, (.v (.int .u32 1899447441)))), (2, (1, (.v (.int .u32 3049323471)))), (3, (1, (.v (.int .u32 3921009573)))), (4, (1, (.v (.int .u32 961987163)))), (5, (1, (.v (.int .u32 1508970993)))), (6, (1, (.v (.int .u32 2453635748)))), (7, (1, (.v (.int .u32 2870763221)))), (8, (1, (.v (.int .u32 3624381080)))), (9, (1, (.v (.int .u32 310598401)))), (10, (1, (.v (.int .u32 607225278)))), (11, (1, (.v (.int .u32 1426881987)))), (12, (1, (.v (.int .u32 1925078388)))), (13, (1, (.v (.int .u32 2162078206)))), (14, (1, (.v (.int .u32 2614888103)))), (15, (1, (.v (.int .u32 3248222580)))), (16, (1, (.v (.int .u32 3835390401)))), (17, (1, (.v (.int .u32 4022224774)))), (18, (1, (.v (.int .u32 264347078)))), (19, (1, (.v (.int .u32 604807628)))), (20, (1, (.v (.int .u32 770255983)))), (21, (1, (.v (.int .u32 1249150122)))), (22, (1, (.v (.int .u32 1555081692)))), (23, (1, (.v (.int .u32 1996064986)))), (24, (1, (.v (.int .u32 2554220882)))), (25, (1, (.v (.int .u32 2821834349)))), (26, (1, (.v (.int .u32 2952996808)))), (27, (1, (.v (.int .u32 3210313671)))), (28, (1, (.v (.int .u32 3336571891)))), (29, (1, (.v (.int .u32 3584528711)))), (30, (1, (.v (.int .u32 113926993)))), (31, (1, (.v (.int .u32 338241895)))), (32, (1, (.v (.int .u32 666307205)))), (33, (1, (.v (.int .u32 773529912)))), (34, (1, (.v (.int .u32 1294757372)))), (35, (1, (.v (.int .u32 1396182291)))), (36, (1, (.v (.int .u32 1695183700)))), (37, (1, (.v (.int .u32 1986661051)))), (38, (1, (.v (.int .u32 2177026350)))), (39, (1, (.v (.int .u32 2456956037)))), (40, (1, (.v (.int .u32 2730485921)))), (41, (1, (.v (.int .u32 2820302411)))), (42, (1, (.v (.int .u32 3259730800)))), (43, (1, (.v (.int .u32 3345764771)))), (44, (1, (.v (.int .u32 3516065817)))), (45, (1, (.v (.int .u32 3600352804)))), (46, (1, (.v (.int .u32 4094571909)))), (47, (1, (.v (.int .u32 275423344)))), (48, (1, (.v (.int .u32 430227734)))), (49, (1, (.v (.int .u32 506948616)))), (50, (1, (.v (.int .u32 659060556)))), (51, (1, (.v (.int .u32 883997877)))), (52, (1, (.v (.int .u32 958139571)))), (53, (1, (.v (.int .u32 1322822218)))), (54, (1, (.v (.int .u32 1537002063)))), (55, (1, (.v (.int .u32 1747873779)))), (56, (1, (.v (.int .u32 1955562222)))), (57, (1, (.v (.int .u32 2024104815)))), (58, (1, (.v (.int .u32 2227730452)))), (59, (1, (.v (.int .u32 2361852424)))), (60, (1, (.v (.int .u32 2428436474)))), (61, (1, (.v (.int .u32 2756734187)))), (62, (1, (.v (.int .u32 3204031479)))), (63, (1, (.v (.int .u32 3329325298))))] env A K = K (.iarr .u32 64 (ints K64)) A := by
  kernel_rfl
theorem bslI_K (env : AEnv) (A : Heap) (K : AV → Heap → Prop) : abslI T_uint32 .u32 [(.v (.int .u32 1116352408)), (.v (.int .u32 1899447441)), (.v (.int .u32 3049323471)), (.v (.int .u32 3921009573)), (.v (.int .u32 961987163)), (.v (.int .u32 1508970993)), (.v (.int .u32 2453635748)), (.v (.int .u32 2870763221)), (.v (.int .u32 3624381080)), (.v (.int .u32 310598401)), (.v (.int .u32 607225278)), (.v (.int .u32 1426881987)), (.v (.int .u32 1925078388)), (.v (.int .u32 2162078206)), (.v (.int .u32 2614888103)), (.v (.int .u32 3248222580)), (.v (.int .u32 3835390401)), (.v (.int .u32 4022224774)), (.v (.int .u32 264347078)), (.v (.int .u32 604807628)), (.v (.int .u32 770255983)), (.v (.int .u32 1249150122)), (.v (.int .u32 1555081692)), (.v (.int .u32 1996064986)), (.v (.int .u32 2554220882)), (.v (.int .u32 2821834349)), (.v (.int .u32 2952996808)), (.v (.int .u32 3210313671)), (.v (.int .u32 3336571891)), (.v (.int .u32 3584528711)), (.v (.int .u32 113926993)), (.v (.int .u32 338241895)), (.v (.int .u32 666307205)), (.v (.int .u32 773529912)), (.v (.int .u32 1294757372)), (.v (.int .u32 1396182291)), (.v (.int .u32 1695183700)), (.v (.int .u32 1986661051)), (.v (.int .u32 2177026350)), (.v (.int .u32 2456956037)), (.v (.int .u32 2730485921)), (.v (.int .u32 2820302411)), (.v (.int .u32 3259730800)), (.v (.int .u32 3345764771)), (.v (.int .u32 3516065817)), (.v (.int .u32 3600352804)), (.v (.int .u32 4094571909)), (.v (.int .u32 275423344)), (.v (.int .u32 430227734)), (.v (.int .u32 506948616)), (.v (.int .u32 659060556)), (.v (.int .u32 883997877)), (.v (.int .u32 958139571)), (.v (.int .u32 1322822218)), (.v (.int .u32 1537002063)), (.v (.int .u32 1747873779)), (.v (.int .u32 1955562222)), (.v (.int .u32 2024104815)), (.v (.int .u32 2227730452)), (.v (.int .u32 2361852424)), (.v (.int .u32 2428436474)), (.v (.int .u32 2756734187)), (.v (.int .u32 3204031479)), (.v (.int .u32 3329325298))] env A K = ∀ g, A g = none → K (.own g 0 64) (A.set g (.irow T_uint32 .u32 (ints K64))) := by
  kernel_rfl
attribute [-simp] abuild abslI
theorem w_digest_rounds : Gives Try.prog F_digest_rounds [] (.iarr .u32 64 (ints K64)) := by
  refine v_digest_rounds (by simp) ?_
  simp -implicitDefEqProofs [a_digest_rounds, q_digest_rounds_0, q_digest_rounds_1, build_K, outOf, K64_length, -List.reduceReplicate]
theorem w_ref03_table : Makes Try.prog F_ref03_table [] 64 (.irow T_uint32 .u32 (ints K64)) := by
  refine i_ref03_table (by simp) fun R hR => ?_
  simp -implicitDefEqProofs [a_ref03_table, q_ref03_table_0, q_ref03_table_1, bslI_K]
  intro g
  refine hR _ _ _ ?_
  simp -implicitDefEqProofs [a_ref03_table, fpost, outOf]
  exact Sub_refl _
end Go.Proofs.Ytfdckjliinpjiaa

/- The walk of mix. -/
namespace Go.Proofs.Ytfdckjliinpjiaa
open Go AVL
attribute [-simp] abslI
set_option linter.unusedVariables false
set_option linter.unusedSimpArgs false
set_option maxRecDepth 8000

def arr8 (l : List Nat) : Cont := .var T_8_uint32 [.iarr .u32 8 (ints l)]
def arr64 (l : List Nat) : Cont := .var T_64_uint32 [.iarr .u32 64 (ints l)]
theorem wsN48_length (b : List Nat) : (wsN b 48).length = 64 := by simp
set_option maxHeartbeats 2000000 in
theorem mix_L10 {s w : List Nat} (hs : Words s) (h8 : s.length = 8) (hw : Words w) (hw64 : w.length = 64) {R : APost} {k : Kt} {env : AEnv} {A : Heap} {g2 g4 g5 g6 g7 : Nat}
    (e2 : env 2 = .ptr g2 0) (e4 : env 4 = .ptr g4 0) (e5 : env 5 = .ptr g5 0) (e6 : env 6 = .ptr g6 0) (e7 : env 7 = .ptr g7 0) (e18 : env 18 = .int .i64 0)
    (f2 : A g2 = some (arr8 s)) (f4 : A g4 = some (arr8 (List.replicate 8 0))) (f5 : A g5 = some (arr64 w)) (f6 : A g6 = some (arr64 K64)) (f7 : A g7 = some (arr8 s))
    (n2 : g2 ≠ g7) (n4 : g4 ≠ g7) (n5 : g5 ≠ g7) (n6 : g6 ≠ g7)
    (hk : ∀ env' B, env' 2 = .ptr g2 0 → env' 4 = .ptr g4 0 → env' 7 = .ptr g7 0 → B g2 = some (arr8 s) → B g4 = some (arr8 (List.replicate 8 0)) → B g7 = some (arr8 (rndN s w 64)) → XE Try.prog R (.exit 0) k env' B) :
    X Try.prog R (.loop q_digest_mix_L10) k env A := by
  refine X_lp (fun (i : Nat) env B => i ≤ 64 ∧ env 2 = .ptr g2 0 ∧ env 4 = .ptr g4 0 ∧ env 5 = .ptr g5 0 ∧ env 6 = .ptr g6 0 ∧ env 7 = .ptr g7 0 ∧ env 18 = .int .i64 i ∧
      B g2 = some (arr8 s) ∧ B g4 = some (arr8 (List.replicate 8 0)) ∧ B g5 = some (arr64 w) ∧ B g6 = some (arr64 K64) ∧ B g7 = some (arr8 (rndN s w i))) (fun i => 64 - i) 0
    ⟨by omega, e2, e4, e5, e6, e7, e18, f2, f4, f5, f6, f7⟩ ?_
  rintro i env B ⟨hi, e2, e4, e5, e6, e7, e18, f2, f4, f5, f6, f7⟩
  have v8 := rndN_length (w := w) h8 i
  have vw := rndN_words (w := w) hs i
  have hstep : rndN s w (i + 1) = rnd (rndN s w i) (K64.getD i 0) (w.getD i 0) := rfl
  obtain ⟨a, b, c, d, e, f, g, h, hv⟩ := eight v8
  rw [hv] at hstep vw
  have ha := vw a (by simp); have hb := vw b (by simp); have hc := vw c (by simp); have hd := vw d (by simp)
  have he := vw e (by simp); have hf := vw f (by simp); have hg := vw g (by simp); have hh := vw h (by simp)
  have fk6 := f6
  unfold arr64 at f5 fk6
  have f7' := f7
  rw [hv] at f7'
  unfold arr8 at f7'
  have hints : ints [a, b, c, d, e, f, g, h] = [(a : Int), (b : Int), (c : Int), (d : Int), (e : Int), (f : Int), (g : Int), (h : Int)] := rfl
  rw [hints] at f7'
  simp -implicitDefEqProofs [q_digest_mix_L10, q_digest_mix_3, e2, e4, e5, e6, e7, e18]
  refine ⟨fun hil => ?_, fun hil => ?_⟩
  · have hkk : K64[i]?.getD 0 = K64.getD i 0 := by rw [List.getD_eq_getElem?_getD]
    have hww : w[i]?.getD 0 = w.getD i 0 := by rw [List.getD_eq_getElem?_getD]
    obtain ⟨kv, hkv⟩ : ∃ x, K64.getD i 0 = x := ⟨_, rfl⟩
    obtain ⟨wv, hwv⟩ : ∃ x, w.getD i 0 = x := ⟨_, rfl⟩
    rw [hkv] at hkk hstep; rw [hwv] at hww hstep
    have b64 : (i : Int) < 64 := by omega
    have hsg : (if IntKind.u32.signed = true then (-1 : Int) else IntKind.u32.max) = 4294967295 := by decide
    have hcn := not_of he
    have hch := ch_of he hf hg
    have hmj := maj_of ha hb hc
    have hs1 := Sg1_of he
    have hs0 := Sg0_of ha
    have ht := add5_of h (Sg1 e) (chf e f g) kv wv
    have hu := add2_of (Sg0 a) (maj a b c)
    have hstep' : rndN s w (i + 1) = [((h + Sg1 e + chf e f g + kv + wv) % W32 + (Sg0 a + maj a b c) % W32) % W32, a, b, c, (d + (h + Sg1 e + chf e f g + kv + wv) % W32) % W32, e, f, g] := hstep
    obtain ⟨t, htv⟩ : ∃ t, (h + Sg1 e + chf e f g + kv + wv) % W32 = t := ⟨_, rfl⟩
    obtain ⟨u, huv⟩ : ∃ u, (Sg0 a + maj a b c) % W32 = u := ⟨_, rfl⟩
    rw [htv] at ht hstep'
    rw [huv] at hu hstep'
    have hx := add2_of t u
    have hy := add2_of d t
    obtain ⟨x, hxv⟩ : ∃ x, (t + u) % W32 = x := ⟨_, rfl⟩
    obtain ⟨y, hyv⟩ : ∃ y, (d + t) % W32 = y := ⟨_, rfl⟩
    rw [hxv] at hx hstep'; rw [hyv] at hy hstep'
    simp -implicitDefEqProofs [q_digest_mix_4, q_digest_mix_5, q_digest_mix_6, e5, e6, e7, e18, f5, fk6, f7', hkk, hww, hw64, K64_length, b64, hil, hsg, hcn, hch]
    refine (w_spin he (m := 6) (by omega) rfl).call (.cons (.refl _) rfl (.cons (.refl _) rfl .nil)) rfl ?_
    simp -implicitDefEqProofs [Sub_refl]
    refine (w_spin he (m := 11) (by omega) rfl).call (.cons (.refl _) rfl (.cons (.refl _) rfl .nil)) rfl ?_
    simp -implicitDefEqProofs [Sub_refl]
    refine (w_spin he (m := 25) (by omega) rfl).call (.cons (.refl _) rfl (.cons (.refl _) rfl .nil)) rfl ?_
    simp -implicitDefEqProofs [Sub_refl, hs1, ht, q_digest_mix_7, e7, f7', hmj]
    refine (w_spin ha (m := 2) (by omega) rfl).call (.cons (.refl _) rfl (.cons (.refl _) rfl .nil)) rfl ?_
    simp -implicitDefEqProofs [Sub_refl]
    refine (w_spin ha (m := 13) (by omega) rfl).call (.cons (.refl _) rfl (.cons (.refl _) rfl .nil)) rfl ?_
    simp -implicitDefEqProofs [Sub_refl]
    refine (w_spin ha (m := 22) (by omega) rfl).call (.cons (.refl _) rfl (.cons (.refl _) rfl .nil)) rfl ?_
    simp -implicitDefEqProofs [Sub_refl, hs0, hu, q_digest_mix_8, q_digest_mix_9, e7, e18, f7', hx, hy]
    refine lp_next (i + 1) ⟨by omega, by simp [e2], by simp [e4], by simp [e5], by simp [e6], by simp [e7], ?_, by simp [n2, f2], by simp [n4, f4], by simp [n5, f5, arr64], by simp [n6, f6], ?_⟩ (by omega)
    · simp
      exact wrap_i64 (by omega)
    · rw [hstep']; simp [arr8, ints]
  · have hie : i = 64 := by omega
    subst hie
    refine hk _ _ ?_ ?_ ?_ f2 f4 f7
    · simp [e2]
    · simp [e4]
    · simp [e7]
theorem mix_L15 {s v : List Nat} (h8 : s.length = 8) (hv8 : v.length = 8) {R : APost} {k : Kt} {env : AEnv} {A : Heap} {g2 g4 g7 : Nat}
    (e2 : env 2 = .ptr g2 0) (e4 : env 4 = .ptr g4 0) (e7 : env 7 = .ptr g7 0) (e100 : env 100 = .int .i64 0)
    (f2 : A g2 = some (arr8 s)) (f4 : A g4 = some (arr8 (List.replicate 8 0))) (f7 : A g7 = some (arr8 v)) (n2 : g7 ≠ g2) (n4 : g4 ≠ g2)
    (hk : ∀ env' B, env' 2 = .ptr g2 0 → env' 4 = .ptr g4 0 → B g2 = some (arr8 (sumW s v)) → B g4 = some (arr8 (List.replicate 8 0)) → XE Try.prog R (.exit 2) k env' B) :
    X Try.prog R (.loop q_digest_mix_L15) k env A := by
  have hsl : (sumW s v).length = 8 := by simp [sumW]
  refine X_lp (fun (i : Nat) env B => i ≤ 8 ∧ env 2 = .ptr g2 0 ∧ env 4 = .ptr g4 0 ∧ env 7 = .ptr g7 0 ∧ env 100 = .int .i64 i ∧ B g2 = some (arr8 ((sumW s v).take i ++ s.drop i)) ∧ B g4 = some (arr8 (List.replicate 8 0)) ∧ B g7 = some (arr8 v)) (fun i => 8 - i) 0
    ⟨by omega, e2, e4, e7, e100, by simpa using f2, f4, f7⟩ ?_
  rintro i env B ⟨hi, e2, e4, e7, e100, f2, f4, f7⟩
  simp -implicitDefEqProofs [q_digest_mix_L15, q_digest_mix_11, e2, e4, e7, e100]
  refine ⟨fun hil => ?_, fun hil => ?_⟩
  · have hLl : ((sumW s v).take i ++ s.drop i).length = 8 := by simp [hsl]; omega
    have r2 : ((sumW s v).take i ++ s.drop i)[i]?.getD 0 = s.getD i 0 := by
      rw [List.getElem?_append_right (by simp [hsl]; omega), List.getElem?_drop, List.getD_eq_getElem?_getD]
      congr 2; simp [hsl]; omega
    have r7 : v[i]?.getD 0 = v.getD i 0 := by rw [List.getD_eq_getElem?_getD]
    obtain ⟨x, hx⟩ : ∃ x, s.getD i 0 = x := ⟨_, rfl⟩
    obtain ⟨y, hy⟩ : ∃ x, v.getD i 0 = x := ⟨_, rfl⟩
    rw [hx] at r2; rw [hy] at r7
    have ha := add2_of x y
    have hsi : (sumW s v)[i]'(by omega) = (x + y) % W32 := by simp [sumW, ← hx, ← hy]
    obtain ⟨z, hz⟩ : ∃ z, (x + y) % W32 = z := ⟨_, rfl⟩
    rw [hz] at ha hsi
    have hset : ((sumW s v).take i ++ s.drop i).set i z = (sumW s v).take (i + 1) ++ s.drop (i + 1) := by
      rw [List.set_append_right _ _ (by simp [hsl]; omega), List.length_take, hsl, show i - min i 8 = 0 by omega, List.drop_eq_getElem_cons (show i < s.length by omega), List.set_cons_zero,
        List.take_succ_eq_append_getElem (show i < (sumW s v).length by omega), hsi, List.append_assoc]; rfl
    obtain ⟨L, hL⟩ : ∃ L, (sumW s v).take i ++ s.drop i = L := ⟨_, rfl⟩
    rw [hL] at f2 hLl r2 hset
    have b8 : (i : Int) < 8 := by omega
    unfold arr8 at f2 f7
    have wi : IntKind.i64.wrap ((i : Int) + 1) = (i : Int) + 1 := wrap_i64 (by omega)
    simp -implicitDefEqProofs [q_digest_mix_12, q_digest_mix_13, q_digest_mix_14, e2, e4, e7, e100, f2, f7, hLl, hv8, r2, r7, b8, ha, hset, hil, wi]
    refine lp_next (i + 1) ⟨by omega, by simp [e2], by simp [e4], by simp [e7], by simp, by simp [arr8], by simp [n4, f4], by simp [n2, f7, arr8]⟩ (by omega)
  · have hie : i = 8 := by omega
    subst hie
    rw [List.take_of_length_le (by omega), List.drop_of_length_le (by omega), List.append_nil] at f2
    refine hk _ _ ?_ ?_ f2 f4
    · simp [e2]
    · simp [e4]
theorem w_digest_mix {s b : List Nat} (hs : Words s) (h8 : s.length = 8) (hb : byts b) (hbl : b.length = 64) : Gives Try.prog F_digest_mix [.iarr .u32 8 (ints s), .isl .u8 (ints b)] (.iarr .u32 8 (ints (mixB s b))) := by
  refine v_digest_mix (by simp) ?_
  simp -implicitDefEqProofs [a_digest_mix, q_digest_mix_0, q_digest_mix_1, q_digest_mix_2, -List.reduceReplicate]
  intro g2 g4 n1 n2
  simp -implicitDefEqProofs [n1, n2, -List.reduceReplicate]
  refine (w_digest_spread hb hbl).call (.cons (.refl _) rfl .nil) rfl ?_
  simp -implicitDefEqProofs [Sub_refl, -List.reduceReplicate]
  refine w_digest_rounds.call .nil rfl ?_
  simp -implicitDefEqProofs [Sub_refl, -List.reduceReplicate]
  intro g5 a1 a2 a3 a4 g6 b1 b2 b3 b4 b5 b6 g7 c1 c2 c3 c4 c5 c6 c7 c8
  simp -implicitDefEqProofs [n1, n2, a1, a2, a3, a4, b1, b2, b3, b4, b5, b6, c1, c2, c3, c4, c5, c6, c7, c8, K64_length, -List.reduceReplicate]
  have z8 : ([0, 0, 0, 0, 0, 0, 0, 0] : List Int) = ints (List.replicate 8 0) := rfl
  refine mix_L10 hs h8 (wsN_words hb 48) (wsN48_length b) (g2 := g2) (g4 := g4) (g5 := g5) (g6 := g6) (g7 := g7) ?_ ?_ ?_ ?_ ?_ ?_ ?_ ?_ ?_ ?_ ?_ ?_ ?_ ?_ ?_ fun env' B e2 e4 e7 f2 f4 f7 => ?_
  · simp
  · simp
  · simp
  · simp
  · simp
  · simp
  · simp [n1, n2, a1, a2, a3, a4, b1, b2, b3, b4, b5, b6, c1, c2, c3, c4, c5, c6, c7, c8, arr8]
  · simp [n1, n2, a1, a2, a3, a4, b1, b2, b3, b4, b5, b6, c1, c2, c3, c4, c5, c6, c7, c8, arr8, ints]
  · simp [n1, n2, a1, a2, a3, a4, b1, b2, b3, b4, b5, b6, c1, c2, c3, c4, c5, c6, c7, c8, arr64]
  · simp [n1, n2, a1, a2, a3, a4, b1, b2, b3, b4, b5, b6, c1, c2, c3, c4, c5, c6, c7, c8, arr64]
  · simp [arr8]
  · exact fun e => c8 e
  · exact fun e => c6 e
  · exact fun e => c4 e
  · exact fun e => c2 e
  simp -implicitDefEqProofs [q_digest_mix_10, -List.reduceReplicate]
  refine mix_L15 h8 (rndN_length (w := wsN b 48) h8 64) (g2 := g2) (g4 := g4) (g7 := g7) ?_ ?_ ?_ ?_ f2 f4 f7 ?_ ?_ fun env' B e2 e4 f2 f4 => ?_
  · simp [e2]
  · simp [e4]
  · simp [e7]
  · simp
  · exact fun e => c7 e
  · exact fun e => n1 e
  have hml := mixB_length s b
  unfold arr8 at f2 f4
  have hsum : sumW s (rndN s (wsN b 48) 64) = mixB s b := rfl
  rw [hsum] at f2
  simp -implicitDefEqProofs [q_digest_mix_15, e2, e4, f2, f4, hml, outOf, -List.reduceReplicate]
end Go.Proofs.Ytfdckjliinpjiaa

/- The walk of the reference's mixed. -/
namespace Go.Proofs.Ytfdckjliinpjiaa
open Go AVL
attribute [-simp] abslI
set_option linter.unusedVariables false
set_option linter.unusedSimpArgs false
set_option maxRecDepth 8000

set_option maxHeartbeats 2000000 in
theorem mixed_L22 {s w : List Nat} (hs : Words s) (h8 : s.length = 8) (hw : Words w) (hw64 : w.length = 64) {R : APost} {k : Kt} {env : AEnv} {A : Heap} {g3 g5 g6 : Nat}
    (e1 : env 1 = .isl .u32 (ints K64)) (e3 : env 3 = .ptr g3 0) (e5 : env 5 = .ptr g5 0) (e6 : env 6 = .ptr g6 0)
    (r0 : env 7 = .int .u32 (s.getD 0 0 : Nat)) (r1 : env 8 = .int .u32 (s.getD 1 0 : Nat)) (r2 : env 9 = .int .u32 (s.getD 2 0 : Nat)) (r3 : env 10 = .int .u32 (s.getD 3 0 : Nat))
    (r4 : env 11 = .int .u32 (s.getD 4 0 : Nat)) (r5 : env 12 = .int .u32 (s.getD 5 0 : Nat)) (r6 : env 13 = .int .u32 (s.getD 6 0 : Nat)) (r7 : env 14 = .int .u32 (s.getD 7 0 : Nat)) (e15 : env 15 = .int .i64 0)
    (f5 : A g5 = some (arr64 w))
    (hk : ∀ env', env' 3 = .ptr g3 0 → env' 6 = .ptr g6 0 → env' 7 = .int .u32 ((rndN s w 64).getD 0 0 : Nat) → env' 8 = .int .u32 ((rndN s w 64).getD 1 0 : Nat) → env' 9 = .int .u32 ((rndN s w 64).getD 2 0 : Nat) → env' 10 = .int .u32 ((rndN s w 64).getD 3 0 : Nat) →
      env' 11 = .int .u32 ((rndN s w 64).getD 4 0 : Nat) → env' 12 = .int .u32 ((rndN s w 64).getD 5 0 : Nat) → env' 13 = .int .u32 ((rndN s w 64).getD 6 0 : Nat) → env' 14 = .int .u32 ((rndN s w 64).getD 7 0 : Nat) → XE Try.prog R (.exit 0) k env' A) :
    X Try.prog R (.loop q_ref03_mixed_L22) k env A := by
  refine X_lp (fun (i : Nat) env B => i ≤ 64 ∧ B = A ∧ env 1 = .isl .u32 (ints K64) ∧ env 3 = .ptr g3 0 ∧ env 5 = .ptr g5 0 ∧ env 6 = .ptr g6 0 ∧ env 7 = .int .u32 ((rndN s w i).getD 0 0 : Nat) ∧ env 8 = .int .u32 ((rndN s w i).getD 1 0 : Nat) ∧ env 9 = .int .u32 ((rndN s w i).getD 2 0 : Nat) ∧ env 10 = .int .u32 ((rndN s w i).getD 3 0 : Nat) ∧
      env 11 = .int .u32 ((rndN s w i).getD 4 0 : Nat) ∧ env 12 = .int .u32 ((rndN s w i).getD 5 0 : Nat) ∧ env 13 = .int .u32 ((rndN s w i).getD 6 0 : Nat) ∧ env 14 = .int .u32 ((rndN s w i).getD 7 0 : Nat) ∧ env 15 = .int .i64 i) (fun i => 64 - i) 0
    ⟨by omega, rfl, e1, e3, e5, e6, r0, r1, r2, r3, r4, r5, r6, r7, e15⟩ ?_
  rintro i env B ⟨hi, rfl, e1, e3, e5, e6, r0, r1, r2, r3, r4, r5, r6, r7, e15⟩
  have v8 := rndN_length (w := w) h8 i
  have vw := rndN_words (w := w) hs i
  have hstep : rndN s w (i + 1) = rnd (rndN s w i) (K64.getD i 0) (w.getD i 0) := rfl
  simp -implicitDefEqProofs only [q_ref03_mixed_L22]
  obtain ⟨a, b, c, d, e, f, g, h, hv⟩ := eight v8
  rw [hv] at hstep vw r0 r1 r2 r3 r4 r5 r6 r7
  have ha := vw a (by simp); have hb := vw b (by simp); have hc := vw c (by simp); have hd := vw d (by simp)
  have he := vw e (by simp); have hf := vw f (by simp); have hg := vw g (by simp); have hh := vw h (by simp)
  simp only [List.getD_cons_zero, List.getD_cons_succ] at r0 r1 r2 r3 r4 r5 r6 r7
  unfold arr64 at f5
  by_cases hil : i < 64
  · have hilc : (i : Int) < 64 := by omega
    have hKi : i < K64.length := by rw [K64_length]; exact hil
    have hkk : K64[i] = K64.getD i 0 := by rw [List.getD_eq_getElem?_getD, List.getElem?_eq_getElem hKi]; rfl
    have hww : w[i]?.getD 0 = w.getD i 0 := by rw [List.getD_eq_getElem?_getD]
    have hwi : i < w.length := by omega
    have hwg : w[i] = w.getD i 0 := by rw [List.getD_eq_getElem?_getD, List.getElem?_eq_getElem hwi]; rfl
    obtain ⟨kv, hkv⟩ : ∃ x, K64.getD i 0 = x := ⟨_, rfl⟩
    obtain ⟨wv, hwv⟩ : ∃ x, w.getD i 0 = x := ⟨_, rfl⟩
    rw [hkv] at hkk hstep; rw [hwv] at hww hwg hstep
    have hcn : IntKind.u32.wrap (4294967295 - (e : Int)) = ((4294967295 - e : Nat) : Int) := by
      have : e < 4294967296 := he
      rw [wrap_u32 (by omega)]; omega
    have hch := ch_of he hf hg
    have hmj := maj_of ha hb hc
    have hs1 := Sg1_of he
    have hs0 := Sg0_of ha
    have ht := add5_of h (Sg1 e) (chf e f g) kv wv
    have hu := add2_of (Sg0 a) (maj a b c)
    have hstep' : rndN s w (i + 1) = [((h + Sg1 e + chf e f g + kv + wv) % W32 + (Sg0 a + maj a b c) % W32) % W32, a, b, c, (d + (h + Sg1 e + chf e f g + kv + wv) % W32) % W32, e, f, g] := hstep
    obtain ⟨t, htv⟩ : ∃ t, (h + Sg1 e + chf e f g + kv + wv) % W32 = t := ⟨_, rfl⟩
    obtain ⟨u, huv⟩ : ∃ u, (Sg0 a + maj a b c) % W32 = u := ⟨_, rfl⟩
    rw [htv] at ht hstep'
    rw [huv] at hu hstep'
    have hx := add2_of t u
    have hy := add2_of d t
    obtain ⟨x, hxv⟩ : ∃ x, (t + u) % W32 = x := ⟨_, rfl⟩
    obtain ⟨y, hyv⟩ : ∃ y, (d + t) % W32 = y := ⟨_, rfl⟩
    rw [hxv] at hx hstep'; rw [hyv] at hy hstep'
    obtain ⟨n, hnv⟩ : ∃ n, 4294967295 - e = n := ⟨_, rfl⟩
    rw [hnv] at hcn hch
    simp -implicitDefEqProofs [q_ref03_mixed_10, q_ref03_mixed_11, e1, e3, e5, e6, r0, r1, r2, r3, r4, r5, r6, r7, e15, f5, hkk, hww, hwg, hw64, hilc, hKi, hil, hcn, hch]
    refine (w_right he (m := 6) (by omega) rfl).call (.cons (.refl _) rfl (.cons (.refl _) rfl .nil)) rfl ?_
    simp -implicitDefEqProofs [Sub_refl]
    refine (w_right he (m := 11) (by omega) rfl).call (.cons (.refl _) rfl (.cons (.refl _) rfl .nil)) rfl ?_
    simp -implicitDefEqProofs [Sub_refl]
    refine (w_right he (m := 25) (by omega) rfl).call (.cons (.refl _) rfl (.cons (.refl _) rfl .nil)) rfl ?_
    simp -implicitDefEqProofs [Sub_refl, hs1, ht, q_ref03_mixed_12, r0]
    refine (w_right ha (m := 2) (by omega) rfl).call (.cons (.refl _) rfl (.cons (.refl _) rfl .nil)) rfl ?_
    simp -implicitDefEqProofs [Sub_refl, r0]
    refine (w_right ha (m := 13) (by omega) rfl).call (.cons (.refl _) rfl (.cons (.refl _) rfl .nil)) rfl ?_
    simp -implicitDefEqProofs [Sub_refl, r0]
    refine (w_right ha (m := 22) (by omega) rfl).call (.cons (.refl _) rfl (.cons (.refl _) rfl .nil)) rfl ?_
    simp -implicitDefEqProofs [Sub_refl, hs0, hu, hmj, r0, r1, r2, r3, r4, r5, r6, r7, e15, q_ref03_mixed_13, q_ref03_mixed_14, q_ref03_mixed_15, q_ref03_mixed_16, q_ref03_mixed_17, q_ref03_mixed_18, q_ref03_mixed_19, q_ref03_mixed_20, q_ref03_mixed_21, hx, hy]
    refine lp_next (i + 1) ?_ (by omega)
    rw [hstep']
    refine ⟨by omega, rfl, by simp [e1], by simp [e3], by simp [e5], by simp [e6], by simp, by simp, by simp, by simp, by simp, by simp, by simp, by simp, ?_⟩
    simp
    exact wrap_i64 (by omega)
  · have hie : i = 64 := by omega
    subst hie
    simp -implicitDefEqProofs [q_ref03_mixed_10, e15]
    refine hk _ ?_ ?_ ?_ ?_ ?_ ?_ ?_ ?_ ?_ ?_
    · simp [e3]
    · simp [e6]
    all_goals rw [hv]; simp [r0, r1, r2, r3, r4, r5, r6, r7]
theorem w_ref03_mixed {s w : List Nat} (hs : Words s) (h8 : s.length = 8) (hw : Words w) (hw64 : w.length = 64) : Gives Try.prog F_ref03_mixed [.iarr .u32 8 (ints s), .isl .u32 (ints K64), .iarr .u32 64 (ints w)] (.iarr .u32 8 (ints (sumW s (rndN s w 64)))) := by
  refine v_ref03_mixed (by simp) ?_
  simp -implicitDefEqProofs [a_ref03_mixed, q_ref03_mixed_0]
  intro g3 g5 n1 n2 g6 m1 m2 m3 m4
  obtain ⟨s0, s1, s2, s3, s4, s5, s6, s7, hsv⟩ := eight h8
  have hv64 := eight (rndN_length (w := w) h8 64)
  obtain ⟨v0, v1, v2, v3, v4, v5, v6, v7, hvv⟩ := hv64
  have hsum : sumW s (rndN s w 64) = [(s0 + v0) % W32, (s1 + v1) % W32, (s2 + v2) % W32, (s3 + v3) % W32, (s4 + v4) % W32, (s5 + v5) % W32, (s6 + v6) % W32, (s7 + v7) % W32] := by
    rw [hvv, hsv]; rfl
  rw [hsum]
  have hints : ints s = [(s0 : Int), (s1 : Int), (s2 : Int), (s3 : Int), (s4 : Int), (s5 : Int), (s6 : Int), (s7 : Int)] := by rw [hsv]; rfl
  have a0 := add2_of s0 v0; have a1 := add2_of s1 v1; have a2 := add2_of s2 v2; have a3 := add2_of s3 v3
  have a4 := add2_of s4 v4; have a5 := add2_of s5 v5; have a6 := add2_of s6 v6; have a7 := add2_of s7 v7
  obtain ⟨x0, y0⟩ : ∃ x, (s0 + v0) % W32 = x := ⟨_, rfl⟩
  obtain ⟨x1, y1⟩ : ∃ x, (s1 + v1) % W32 = x := ⟨_, rfl⟩
  obtain ⟨x2, y2⟩ : ∃ x, (s2 + v2) % W32 = x := ⟨_, rfl⟩
  obtain ⟨x3, y3⟩ : ∃ x, (s3 + v3) % W32 = x := ⟨_, rfl⟩
  obtain ⟨x4, y4⟩ : ∃ x, (s4 + v4) % W32 = x := ⟨_, rfl⟩
  obtain ⟨x5, y5⟩ : ∃ x, (s5 + v5) % W32 = x := ⟨_, rfl⟩
  obtain ⟨x6, y6⟩ : ∃ x, (s6 + v6) % W32 = x := ⟨_, rfl⟩
  obtain ⟨x7, y7⟩ : ∃ x, (s7 + v7) % W32 = x := ⟨_, rfl⟩
  rw [y0] at a0; rw [y1] at a1; rw [y2] at a2; rw [y3] at a3; rw [y4] at a4; rw [y5] at a5; rw [y6] at a6; rw [y7] at a7
  rw [y0, y1, y2, y3, y4, y5, y6, y7]
  simp -implicitDefEqProofs [q_ref03_mixed_1, q_ref03_mixed_2, q_ref03_mixed_3, q_ref03_mixed_4, q_ref03_mixed_5, q_ref03_mixed_6, q_ref03_mixed_7, q_ref03_mixed_8, q_ref03_mixed_9, n1, n2, m1, m2, m3, m4, hints]
  refine mixed_L22 hs h8 hw hw64 (g3 := g3) (g5 := g5) (g6 := g6) ?_ ?_ ?_ ?_ ?_ ?_ ?_ ?_ ?_ ?_ ?_ ?_ ?_ ?_ fun env' e3 e6 r0 r1 r2 r3 r4 r5 r6 r7 => ?_
  · simp
  · simp
  · simp
  · simp
  · simp [hsv]
  · simp [hsv]
  · simp [hsv]
  · simp [hsv]
  · simp [hsv]
  · simp [hsv]
  · simp [hsv]
  · simp [hsv]
  · simp
  · simp [n1, n2, m1, m2, m3, m4, arr64]
  rw [hvv] at r0 r1 r2 r3 r4 r5 r6 r7
  simp only [List.getD_cons_zero, List.getD_cons_succ] at r0 r1 r2 r3 r4 r5 r6 r7
  simp -implicitDefEqProofs [q_ref03_mixed_22, e3, e6, r0, r1, r2, r3, r4, r5, r6, r7, n1, n2, m1, m2, m3, m4, a0, a1, a2, a3, a4, a5, a6, a7, outOf]
  rfl
end Go.Proofs.Ytfdckjliinpjiaa

/- The walks of the reference's padded and Sum. -/
namespace Go.Proofs.Ytfdckjliinpjiaa
open Go AVL
attribute [-simp] AV.isAgg aappI aapp alen
set_option linter.unusedVariables false
set_option linter.unusedSimpArgs false
set_option maxRecDepth 8000

theorem byts_take {l : List Nat} (h : byts l) (n : Nat) : byts (l.take n) := fun x hx => h x (List.mem_of_mem_take hx)
theorem byts_drop {l : List Nat} (h : byts l) (n : Nat) : byts (l.drop n) := fun x hx => h x (List.mem_of_mem_drop hx)
theorem byts_append {a b : List Nat} (ha : byts a) (hb : byts b) : byts (a ++ b) := fun x hx => (List.mem_append.1 hx).elim (ha x) (hb x)
@[simp] theorem be8_length (n : Nat) : (be8 n).length = 8 := by simp [be8]
theorem be8_get (n i : Nat) (h : i < (be8 n).length) : (be8 n)[i] = n / 256 ^ (7 - i) % 256 := by simp [be8]
theorem be8_byts (n : Nat) : byts (be8 n) := by
  intro x hx
  simp only [be8, List.mem_map] at hx
  obtain ⟨i, _, rfl⟩ := hx
  exact Nat.mod_lt _ (by decide)
theorem padT_byts {l : List Nat} (h : byts l) : byts (padT l) := by
  refine byts_append (byts_append (byts_append h ?_) ?_) (be8_byts _)
  · intro x hx; simp at hx; omega
  · intro x hx; rw [List.eq_of_mem_replicate hx]; decide
/-- One byte of a number. -/
theorem byte_of {n m : Nat} (hm : 8 * m ≤ 64) {k : Int} (hk : k = (8 * m : Nat)) : IntKind.u8.wrap (shrI .u64 (n : Int) k) = ((n / 256 ^ m % 256 : Nat) : Int) := by
  subst hk
  rw [shrI_nat, show min (8 * m) IntKind.u64.bits = 8 * m from Nat.min_eq_left (by show 8 * m ≤ 64; omega), Nat.pow_mul, wrap_u8m]
  exact (Int.natCast_emod (n / (2 ^ 8) ^ m) 256).symm
/-- Part of the padding. -/
def padP (l : List Nat) (j : Nat) : List Nat := l ++ [128] ++ List.replicate j 0
def padQ (l : List Nat) (n i : Nat) : List Nat := padP l (zeros n) ++ (be8 (8 * n)).take i
@[simp] theorem padP_length (l : List Nat) (j : Nat) : (padP l j).length = l.length + 1 + j := by simp [padP]; omega
theorem padP_succ (l : List Nat) (j : Nat) : padP l (j + 1) = padP l j ++ [0] := by simp [padP, List.replicate_succ']
theorem padQ_length (l : List Nat) (n i : Nat) (hi : i ≤ 8) : (padQ l n i).length = l.length + 1 + zeros n + i := by simp [padQ]; omega
theorem padQ_succ (l : List Nat) (n i : Nat) (hi : i < 8) : padQ l n (i + 1) = padQ l n i ++ [8 * n / 256 ^ (7 - i) % 256] := by
  have h : i < (be8 (8 * n)).length := by simpa using hi
  rw [padQ, List.take_succ_eq_append_getElem h, be8_get, ← List.append_assoc]; rfl
theorem padQ_full (l : List Nat) (n : Nat) : padQ l n 8 = l ++ [128] ++ List.replicate (zeros n) 0 ++ be8 (8 * n) := by
  rw [padQ, List.take_of_length_le (by simp)]; rfl
theorem w_ref03_padded {b : List Nat} (hl : b.length ≤ 100000) : MakesS Try.prog F_ref03_padded [.isl .u8 (ints b)] T_uint8 .u8 (ints (padT b)) := by
  refine i_ref03_padded (by simp) fun R hR => ?_
  simp -implicitDefEqProofs [a_ref03_padded, q_ref03_padded_0, q_ref03_padded_1, q_ref03_padded_2]
  refine (SlS.nil (e := T_uint8) (k := .u8) (Sub_refl _)).appO (ys := ints b) (Sub_refl _) (fun Q hQ => ⟨rfl, hQ⟩) (by simp; omega) fun g A1 h1 => ?_
  simp only [List.nil_append, ints_length] at h1
  simp -implicitDefEqProofs [q_ref03_padded_3]
  intro g2 hg2
  refine h1.appO (bytes := 1) (ys := [(128 : Int)]) (sub_none hg2) ?_ (by simp; omega) fun g3 A3 h3 => ?_
  · intro Q hQ; simpa [srcI] using hQ
  have hz : zeros b.length < 64 := Nat.mod_lt _ (by decide)
  have hone : ints b ++ [(128 : Int)] = ints (padP b 0) := by simp [ints, padP]
  rw [hone] at h3 ⊢
  rw [ints_length] at h3 ⊢
  simp -implicitDefEqProofs
  refine X_lp (fun (j : Nat) env B => j ≤ zeros b.length ∧ env 0 = .isl .u8 (ints b) ∧ ∃ g, env 3 = .own g 0 (b.length + 1 + j) ∧ SlS T_uint8 .u8 (.own g 0 (b.length + 1 + j)) (ints (padP b j)) H0 B) (fun j => zeros b.length - j) 0
    ⟨by omega, by simp, g3, by simp, by simpa using h3⟩ ?_
  rintro j env B ⟨hj, e0, gj, e3, hv⟩
  have hmod : ((b.length : Int) + 1 + j).tmod 64 = (((b.length + 1 + j) % 64 : Nat) : Int) := by rw [Int.tmod_eq_emod_of_nonneg (by omega)]; omega
  have hex : (b.length + 1 + j) % 64 = 56 ↔ j = zeros b.length := by unfold zeros at hj ⊢; omega
  have wl : (IntKind.i64.wrap ((b.length : Int) + 1 + j)) = (b.length : Int) + 1 + j := wrap_i64 (by omega)
  by_cases hjz : j = zeros b.length
  · have hm56 : (b.length + 1 + j) % 64 = 56 := hex.2 hjz
    rw [hm56] at hmod
    have w1 : IntKind.u64.wrap (b.length : Int) = (b.length : Int) := wrap_u64 (by omega)
    have w2 : IntKind.u64.wrap ((b.length : Int) * 8) = ((8 * b.length : Nat) : Int) := by rw [wrap_u64 (by omega)]; omega
    obtain ⟨m, hm⟩ : ∃ m, 8 * b.length = m := ⟨_, rfl⟩
    rw [hm] at w2
    simp -implicitDefEqProofs [q_ref03_padded_L6, q_ref03_padded_4, q_ref03_padded_6, q_ref03_padded_7, e0, e3, hmod, w1, w2]
    subst hjz
    have hq0 : padP b (zeros b.length) = padQ b b.length 0 := by simp [padQ]
    rw [hq0] at hv
    refine X_lp (fun (i : Nat) env B => i ≤ 8 ∧ env 4 = .int .u64 m ∧ env 5 = .int .i64 i ∧ ∃ g, env 3 = .own g 0 (b.length + 1 + zeros b.length + i) ∧ SlS T_uint8 .u8 (.own g 0 (b.length + 1 + zeros b.length + i)) (ints (padQ b b.length i)) H0 B) (fun i => 8 - i) 0
      ⟨by omega, by simp, by simp, gj, by simp [e3], hv⟩ ?_
    rintro i env B ⟨hi, e4, e5, gi, e3, hv⟩
    simp -implicitDefEqProofs [q_ref03_padded_L11, q_ref03_padded_8, q_ref03_padded_11, e3, e4, e5]
    refine ⟨fun hil => ?_, fun hil => ?_⟩
    · have w3 : IntKind.i64.wrap (8 * (i : Int)) = 8 * (i : Int) := wrap_i64 (by omega)
      have w4 : IntKind.i64.wrap (56 - 8 * (i : Int)) = 56 - 8 * (i : Int) := wrap_i64 (by omega)
      have w5 : IntKind.u64.wrap (56 - 8 * (i : Int)) = ((8 * (7 - i) : Nat) : Int) := by rw [wrap_u64 (by omega)]; omega
      have w6 := byte_of (n := m) (m := 7 - i) (by omega) (k := ((8 * (7 - i) : Nat) : Int)) rfl
      obtain ⟨sh, hsh⟩ : ∃ s, 8 * (7 - i) = s := ⟨_, rfl⟩
      obtain ⟨y, hy⟩ : ∃ y, m / 256 ^ (7 - i) % 256 = y := ⟨_, rfl⟩
      rw [hsh] at w5 w6; rw [hy] at w6
      have wi : IntKind.i64.wrap ((i : Int) + 1) = (i : Int) + 1 := wrap_i64 (by omega)
      have hlq := padQ_length b b.length i (by omega)
      have hsq := padQ_succ b b.length i (by omega)
      rw [hm, hy] at hsq
      simp -implicitDefEqProofs [q_ref03_padded_9, q_ref03_padded_10, e3, e4, e5, w3, w4, w5, w6]
      intro g5 hg5
      refine hv.appO (bytes := 1) (ys := [(y : Int)]) (sub_none hg5) ?_ (by simp [hlq]; omega) fun g6 A6 h6 => ?_
      · intro Q hQ; simpa [srcI] using hQ
      have hap : ints (padQ b b.length i) ++ [(y : Int)] = ints (padQ b b.length (i + 1)) := by rw [hsq]; simp [ints]
      rw [hap, ints_length, padQ_length b b.length (i + 1) (by omega)] at h6 ⊢
      simp -implicitDefEqProofs [e5, wi]
      exact lp_next (i + 1) ⟨by omega, by simp [e4], by simp, g6, by simp, h6⟩ (by omega)
    · have hie : i = 8 := by omega
      subst hie
      refine hR _ _ _ ?_
      rw [padQ_full] at hv
      have := hv.fin
      simpa -implicitDefEqProofs [fpost, a_ref03_padded, outOf, padT, padQ_length, hz] using this
  · have hm56 : ¬ (b.length + 1 + j) % 64 = 56 := fun e => hjz (hex.1 e)
    obtain ⟨md, hmd⟩ : ∃ m, (b.length + 1 + j) % 64 = m := ⟨_, rfl⟩
    rw [hmd] at hmod hm56
    have hm' : ¬ (md : Int) = 56 := by omega
    simp -implicitDefEqProofs [q_ref03_padded_L6, q_ref03_padded_4, q_ref03_padded_5, e0, e3, hmod, hm']
    intro g5 hg5
    refine hv.appO (bytes := 1) (ys := [(0 : Int)]) (sub_none hg5) ?_ (by simp; omega) fun g6 A6 h6 => ?_
    · intro Q hQ; simpa [srcI] using hQ
    have hap : ints (padP b j) ++ [(0 : Int)] = ints (padP b (j + 1)) := by rw [padP_succ]; simp [ints]
    rw [hap, ints_length, padP_length] at h6 ⊢
    simp -implicitDefEqProofs
    exact lp_next (j + 1) ⟨by omega, by simp [e0], g6, by simp, h6⟩ (by omega)
end Go.Proofs.Ytfdckjliinpjiaa

/- The walk of the reference's Sum. -/
namespace Go.Proofs.Ytfdckjliinpjiaa
open Go AVL
attribute [-simp] AV.isAgg aappI aapp alen
set_option linter.unusedVariables false
set_option linter.unusedSimpArgs false
set_option maxRecDepth 8000

theorem mixAll_succ (n : Nat) (s p : List Nat) : mixAll s (n + 1) p = mixB (mixAll s n p) ((p.drop (64 * n)).take 64) := by
  rw [mixAll_add]; rfl
theorem outB_length (s : List Nat) : (outB s).length = 32 := by simp [outB]
theorem outB_get (s : List Nat) (i : Nat) (h : i < (outB s).length) : (outB s)[i] = s.getD (i / 4) 0 / 2 ^ (24 - 8 * (i % 4)) % 256 := by simp [outB]
theorem byte32_of {n m : Nat} (hm : m ≤ 32) {k : Int} (hk : k = (m : Nat)) : IntKind.u8.wrap (shrI .u32 (n : Int) k) = ((n / 2 ^ m % 256 : Nat) : Int) := by
  rw [shr32 hm hk, wrap_u8m]
  exact (Int.natCast_emod (n / 2 ^ m) 256).symm
def z32 : List Nat := List.replicate 32 0
def arrB (l : List Nat) : Cont := .var T_32_uint8 [.iarr .u8 32 (ints l)]
theorem sum_L13 {s : List Nat} (h8 : s.length = 8) {R : APost} {k : Kt} {env : AEnv} {A : Heap} {g2 g4 g7 : Nat} (e2 : env 2 = .ptr g2 0) (e4 : env 4 = .ptr g4 0) (e7 : env 7 = .ptr g7 0) (e8 : env 8 = .int .i64 0)
    (f2 : A g2 = some (arrB z32)) (f4 : A g4 = some (arr8 s)) (f7 : A g7 = some (arrB z32)) (n2 : g2 ≠ g7) (n4 : g4 ≠ g7)
    (hk : ∀ env' B, env' 2 = .ptr g2 0 → env' 7 = .ptr g7 0 → B g2 = some (arrB z32) → B g7 = some (arrB (outB s)) → XE Try.prog R (.exit 2) k env' B) : X Try.prog R (.loop q_ref03_Sum_L13) k env A := by
  have hol := outB_length s
  refine X_lp (fun (i : Nat) env B => i ≤ 32 ∧ env 2 = .ptr g2 0 ∧ env 4 = .ptr g4 0 ∧ env 7 = .ptr g7 0 ∧ env 8 = .int .i64 i ∧ B g2 = some (arrB z32) ∧ B g4 = some (arr8 s) ∧ B g7 = some (arrB ((outB s).take i ++ List.replicate (32 - i) 0))) (fun i => 32 - i) 0
    ⟨by omega, e2, e4, e7, e8, f2, f4, by rw [List.take_zero, List.nil_append]; exact f7⟩ ?_
  rintro i env B ⟨hi, e2, e4, e7, e8, f2, f4, f7⟩
  simp -implicitDefEqProofs [q_ref03_Sum_L13, q_ref03_Sum_10, e2, e4, e7, e8]
  refine ⟨fun hil => ?_, fun hil => ?_⟩
  · have hio : i < (outB s).length := by omega
    have q1 : IntKind.i64.wrap ((i : Int) / 4) = ((i / 4 : Nat) : Int) := by rw [wrap_i64 (by omega)]; omega
    have q2 : (i : Int).tmod 4 = ((i % 4 : Nat) : Int) := by rw [Int.tmod_eq_emod_of_nonneg (by omega)]; omega
    obtain ⟨d, hd⟩ : ∃ d, i / 4 = d := ⟨_, rfl⟩
    obtain ⟨m, hm⟩ : ∃ m, i % 4 = m := ⟨_, rfl⟩
    have hd8 : d < 8 := by omega
    have hm4 : m < 4 := by omega
    have hbyte := outB_get s i hio
    rw [hd, hm] at hbyte
    rw [hd] at q1; rw [hm] at q2
    have w3 : IntKind.i64.wrap (8 * (m : Int)) = 8 * (m : Int) := wrap_i64 (by omega)
    have w4 : IntKind.i64.wrap (24 - 8 * (m : Int)) = ((24 - 8 * m : Nat) : Int) := by rw [wrap_i64 (by omega)]; omega
    have w5 : IntKind.u64.wrap ((24 - 8 * m : Nat) : Int) = ((24 - 8 * m : Nat) : Int) := wrap_u64 (by omega)
    obtain ⟨x, hx⟩ : ∃ x, s.getD d 0 = x := ⟨_, rfl⟩
    have hsd : s[d]?.getD 0 = x := by rw [← hx, List.getD_eq_getElem?_getD]
    have w6 := byte32_of (n := x) (m := 24 - 8 * m) (by omega) (k := ((24 - 8 * m : Nat) : Int)) rfl
    rw [hx] at hbyte
    obtain ⟨y, hy⟩ : ∃ y, x / 2 ^ (24 - 8 * m) % 256 = y := ⟨_, rfl⟩
    rw [hy] at w6 hbyte
    obtain ⟨sh, hsh⟩ : ∃ t, 24 - 8 * m = t := ⟨_, rfl⟩
    rw [hsh] at w4 w5 w6
    have hset := fill_setN hio (show (outB s).length ≤ 32 by omega)
    rw [hbyte] at hset
    obtain ⟨L, hL⟩ : ∃ L, (outB s).take i ++ List.replicate (32 - i) 0 = L := ⟨_, rfl⟩
    have hLl : L.length = 32 := by rw [← hL]; simp [hol]; omega
    rw [hL] at f7 hset
    have c8 : (d : Int) < 8 := by omega
    have c32 : (i : Int) < 32 := by omega
    have wi : IntKind.i64.wrap ((i : Int) + 1) = (i : Int) + 1 := wrap_i64 (by omega)
    unfold arr8 at f4
    unfold arrB at f7
    simp -implicitDefEqProofs [q_ref03_Sum_11, q_ref03_Sum_12, e2, e4, e7, e8, f4, f7, q1, q2, w3, w4, w5, w6, hsd, h8, c8, c32, hLl, hset, wi, hil]
    refine lp_next (i + 1) ⟨by omega, by simp [e2], by simp [e4], by simp [e7], by simp, by simp [n2, f2], by simp [n4, f4, arr8], ?_⟩ (by omega)
    rw [show 32 - (i + 1) = 31 - i by omega]
    simp [arrB]
  · have hie : i = 32 := by omega
    subst hie
    rw [List.take_of_length_le (by omega), show 32 - 32 = 0 by rfl, List.replicate_zero, List.append_nil] at f7
    refine hk _ _ ?_ ?_ f2 f7
    · simp [e2]
    · simp [e7]
theorem vw_il' {A : Heap} {g n : Nat} {t : TypeId} {k : IntKind} {l : List Nat} (h : A g = some (.irow t k (ints l))) (hn : n = l.length) : Vw A (.own g 0 n) (.isl k (ints l)) := by
  subst hn
  have := Vw.own (A := A) (i := 0) (n := l.length) h (by simp)
  rw [List.drop_zero] at this
  have e : (ints l).take l.length = ints l := List.take_of_length_le (by simp)
  rwa [e] at this
theorem vw_k {A : Heap} {g : Nat} {t : TypeId} {k : IntKind} {l : List Nat} (h : A g = some (.irow t k (ints l))) (hn : l.length = 64) : Vw A (.own g 0 64) (.isl k (ints l)) := vw_il' h hn.symm
theorem dig_eq (b : List Nat) : outB (mixAll H256 ((b.length + 72) / 64) (padT b)) = dig b := rfl
theorem w_ref03_Sum {b : List Nat} (hb : byts b) (hl : b.length ≤ 100000) : Gives Try.prog F_ref03_Sum [.isl .u8 (ints b)] (.iarr .u8 32 (ints (dig b))) := by
  refine v_ref03_Sum (by simp) ?_
  simp -implicitDefEqProofs [a_ref03_Sum, q_ref03_Sum_0, q_ref03_Sum_1, -List.reduceReplicate]
  intro g2
  refine w_ref03_table.call .nil rfl fun gk hgk => ?_
  simp -implicitDefEqProofs [q_ref03_Sum_2, -List.reduceReplicate]
  intro g4 a1 a2 a3 a4
  simp -implicitDefEqProofs [q_ref03_Sum_3, -List.reduceReplicate]
  refine (w_ref03_padded hl).call (.cons (.refl _) rfl .nil) fun v B hB => ?_
  have k1 : gk ≠ g2 := by rintro rfl; simp at hgk
  have f2 := hB.sub g2 (arrB z32) (by simp [a4, Ne.symm k1]; rfl)
  have fk := hB.sub gk (.irow T_uint32 .u32 (ints K64)) (by simp [a2])
  have f4 := hB.sub g4 (arr8 H256) (by simp [arr8]; rfl)
  have hpl := padT_length b
  rcases hB.own with ⟨rfl, hn⟩ | ⟨gv, rfl, hgv, fv⟩
  · have := congrArg List.length hn
    rw [ints_length, hpl] at this
    simp at this; omega
  have v4 : gv ≠ g4 := by rintro rfl; rw [f4] at fv; cases fv
  have n2 : g2 ≠ g4 := fun e => a4 e
  have k4 : gk ≠ g4 := fun e => a2 e
  rw [ints_length]
  obtain ⟨p, hp⟩ : ∃ p, padT b = p := ⟨_, rfl⟩
  obtain ⟨nb, hnb⟩ : ∃ n, (b.length + 72) / 64 = n := ⟨_, rfl⟩
  rw [hnb] at hpl
  rw [hp] at hpl fv
  have hpb : byts p := hp ▸ padT_byts hb
  have hdig : outB (mixAll H256 nb p) = dig b := by rw [← dig_eq, hnb, hp]
  have hm8 : ∀ i, (mixAll H256 i p).length = 8 := fun i => mixAll_length i p rfl
  have hmw : ∀ i, Words (mixAll H256 i p) := fun i => mixAll_words i p H256_words
  rw [hp]
  simp -implicitDefEqProofs [q_ref03_Sum_4, -List.reduceReplicate]
  refine X_lp (fun (i : Nat) env B => i ≤ nb ∧ env 2 = .ptr g2 0 ∧ env 3 = .own gk 0 64 ∧ env 4 = .ptr g4 0 ∧ env 5 = .own gv 0 p.length ∧ env 6 = .int .i64 (64 * i : Nat) ∧ B g2 = some (arrB z32) ∧ B gk = some (.irow T_uint32 .u32 (ints K64)) ∧ B g4 = some (arr8 (mixAll H256 i p)) ∧ B gv = some (.irow T_uint8 .u8 (ints p))) (fun i => nb - i) 0
    ⟨by omega, by simp, by simp, by simp, by simp, by simp, f2, fk, f4, fv⟩ ?_
  clear f2 fk f4 fv hB
  rintro i env B ⟨hi, e2, e3, e4, e5, e6, f2, fk, f4, fv⟩
  by_cases hin : i < nb
  · have c1 : 64 * (i : Int) < p.length := by omega
    have wi : IntKind.i64.wrap (64 * (i : Int) + 64) = ((64 * (i + 1) : Nat) : Int) := by rw [wrap_i64 (by omega)]; omega
    have hmm := hm8 i
    have f4' := f4
    unfold arr8 at f4'
    obtain ⟨blk, hblk⟩ : ∃ x, (p.drop (64 * i)).take 64 = x := ⟨_, rfl⟩
    have hstep := mixAll_succ i H256 p
    rw [hblk] at hstep
    have hcw := w_ref03_words (t := p) (at' := 64 * i) (b := blk) hpb (by omega) hblk.symm (by omega)
    have hcast : ((64 * i : Nat) : Int) = 64 * (i : Int) := by omega
    rw [hcast] at hcw
    simp -implicitDefEqProofs [q_ref03_Sum_L8, q_ref03_Sum_5, q_ref03_Sum_6, q_ref03_Sum_7, e2, e3, e4, e5, e6, c1, f4', hmm, wi, -List.reduceReplicate]
    refine hcw.call (.cons (vw_il' fv rfl) rfl (.cons (.refl _) rfl .nil)) rfl ?_
    simp -implicitDefEqProofs [Sub_refl, -List.reduceReplicate]
    have hbb : byts blk := hblk ▸ byts_take (byts_drop hpb _) _
    refine (w_ref03_mixed (hmw i) (hm8 i) (wsN_words hbb 48) (wsN48_length blk)).call (.cons (.refl _) rfl (.cons (vw_k fk K64_length) rfl (.cons (.refl _) rfl .nil))) rfl ?_
    have hlen8 : (sumW (mixAll H256 i p) (rndN (mixAll H256 i p) (wsN blk 48) 64)).length = 8 := mixB_length _ _
    simp -implicitDefEqProofs [e4, e6, f4', hmm, wi, hlen8, -List.reduceReplicate]
    refine lp_next (i + 1) ⟨by omega, by simp [e2], by simp [e3], by simp [e4], by simp [e5], by simp, by simp [n2, f2], by simp [k4, fk], ?_, by simp [v4, fv]⟩ (by omega)
    rw [hstep]
    simp [arr8]
    rfl
  · have hie : i = nb := by omega
    subst hie
    have c1 : ¬ 64 * (i : Int) < p.length := by omega
    simp -implicitDefEqProofs [q_ref03_Sum_L8, q_ref03_Sum_5, q_ref03_Sum_8, q_ref03_Sum_9, e2, e3, e4, e5, e6, c1, -List.reduceReplicate]
    intro g7 h7
    have y2 := fresh_ne f2 h7
    have y4 := fresh_ne f4 h7
    refine sum_L13 (hm8 i) (g2 := g2) (g4 := g4) (g7 := g7) ?_ ?_ ?_ ?_ ?_ ?_ ?_ y2 y4 fun env' B' e2 e7 f2 f7 => ?_
    · simp [e2]
    · simp [e4]
    · simp
    · simp
    · simp [y2, f2]
    · simp [y4, f4]
    · simp [arrB, z32, ints]
    rw [hdig] at f7
    have hdl : (dig b).length = 32 := outB_length _
    unfold arrB z32 at f2
    unfold arrB at f7
    simp -implicitDefEqProofs [q_ref03_Sum_13, e2, e7, f2, f7, hdl, outOf, -List.reduceReplicate]
end Go.Proofs.Ytfdckjliinpjiaa

/- The walks of the sum that grows: New, Add. -/
namespace Go.Proofs.Ytfdckjliinpjiaa
open Go AVL
attribute [-simp] AV.isAgg aappI aapp alen shp good comps
set_option linter.unusedVariables false
set_option linter.unusedSimpArgs false
set_option maxRecDepth 8000

theorem vw_part {A : Heap} {g i n : Nat} {t : TypeId} {k : IntKind} {l : List Nat} (h : A g = some (.irow t k (ints l))) (hn : i + n ≤ l.length) : Vw A (.own g i n) (.isl k (ints ((l.drop i).take n))) := by
  have := Vw.own (A := A) (i := i) (n := n) h (by simpa using hn)
  rwa [ints_drop, ints_take] at this
/-- A sum of bytes, in memory. -/
def hashC (s : List Nat) (r : AV) (n : Nat) : Cont := .var T_digest_Hash [.iarr .u32 8 (ints s), r, .int .u64 n]
structure HashR (A : Heap) (h : Nat) (r : AV) (l : List Nat) : Prop where
  at' : A h = some (hashC (stW l) r l.length)
  rest : (r = .nilS ∧ stR l = []) ∨ ∃ g, r = .own g 0 (stR l).length ∧ A g = some (.irow T_uint8 .u8 (ints (stR l))) ∧ g ≠ h
theorem w_digest_New {A : Heap} {K Kp : AV → Heap → Prop} (hk : ∀ h, A h = none → HashR (A.set h (hashC H256 .nilS 0)) h .nilS [] → K (.ptr h 0) (A.set h (hashC H256 .nilS 0))) : SimX Try.prog F_digest_New [] A (outK K Kp) := by
  refine j_digest_New (by simp) ?_
  simp -implicitDefEqProofs [a_digest_New, q_digest_New_0, q_digest_New_1]
  intro h hh
  exact hk h hh ⟨by simp [stW, mixAll], .inl ⟨rfl, rfl⟩⟩
theorem w_Hash_AddV {A : Heap} {h : Nat} {r v : AV} {l b : List Nat} (hA : HashR A h r l) (hl : byts l) (hb : byts b) (hll : l.length ≤ 100000) (hbl : b.length ≤ 100000) (hvl : ∀ F : AV → Prop, alen false v F = F (.int .i64 b.length)) (hva : v.isAgg = false)
    (hsrc : ∀ c (Q : List Int → Prop), Q (ints b) → srcI .u8 v (A.set h c) Q) {K Kp : AV → Heap → Prop}
    (hk : ∀ r' A', HashR A' h r' (l ++ b) → (∀ x c, x ≠ h → (∀ n, r ≠ .own x 0 n) → A x = some c → A' x = some c ∧ ∀ n, r' ≠ .own x 0 n) → K (.tuple []) A') : SimX Try.prog F_Pdigest_Hash_Add [.ptr h 0, v] A (outK K Kp) := by
  refine j_Pdigest_Hash_Add (by simp) ?_
  have hat := hA.at'
  unfold hashC at hat
  have w1 : IntKind.u64.wrap (b.length : Int) = (b.length : Int) := wrap_u64 (by omega)
  have w2 : IntKind.u64.wrap ((l.length : Int) + (b.length : Int)) = ((l.length + b.length : Nat) : Int) := by rw [wrap_u64 (by omega)]; omega
  have hsc : r.size = 1 ∧ shp .sc [r] = some r ∧ r.isAgg = false := by
    rcases hA.rest with ⟨rfl, _⟩ | ⟨g, rfl, _⟩ <;> exact ⟨rfl, rfl, rfl⟩
  obtain ⟨n', hn'⟩ : ∃ n', l.length + b.length = n' := ⟨_, rfl⟩
  rw [hn'] at w2
  have hW8 : (stW l).length = 8 := mixAll_length _ _ rfl
  have hsl := stR_length l
  obtain ⟨all, hall⟩ : ∃ x, stR l ++ b = x := ⟨_, rfl⟩
  have hal : all.length = (stR l).length + b.length := by rw [← hall]; simp
  -- the row of all
  have row : ∃ X : Heap, (∀ x c, x ≠ h → (∀ n, r ≠ .own x 0 n) → A x = some c → X x = some c) ∧ X h = some (hashC (stW l) r n') ∧ SlS T_uint8 .u8 r (ints (stR l)) X (A.set h (hashC (stW l) r n')) ∧ ∀ x c, X x = some c → ∀ n, r ≠ .own x 0 n := by
    rcases hA.rest with ⟨rfl, h0⟩ | ⟨g, rfl, hg, hgh⟩
    · refine ⟨A.set h (hashC (stW l) .nilS n'), fun x c hx _ hc => by rw [Heap.set_ne _ _ hx]; exact hc, set_eq', ?_, fun x c _ n e => by cases e⟩
      rw [h0]; exact SlS.nil (Sub_refl _)
    · refine ⟨(A.set h (hashC (stW l) (.own g 0 (stR l).length) n')).del g, fun x c hx hr hc => ?_, ?_, SlS.alone (by simp) (by rw [Heap.set_ne _ _ hgh]; exact hg), fun x c hx n e => ?_⟩
      · have hxg : x ≠ g := fun e => hr _ (by rw [e])
        rw [del_app, if_neg hxg, Heap.set_ne _ _ hx]; exact hc
      · rw [del_app, if_neg (Ne.symm hgh)]; exact set_eq'
      · injection e with e1 _ _; subst e1; simp [del_app] at hx
  obtain ⟨X, x1, x2, x3, x4⟩ := row
  obtain ⟨hsz, hshp, hag⟩ := hsc
  simp -implicitDefEqProofs [a_Pdigest_Hash_Add, q_Pdigest_Hash_Add_0, q_Pdigest_Hash_Add_1, hat, hsz, hshp, hag, hvl, hva, w1, w2]
  refine x3.appO (bytes := 1) (ys := ints b) (sub_of_eq ?_) (fun Q hQ => hsrc _ Q hQ) (by simp only [ints_length]; omega) fun ga C hC => ?_
  · rfl
  have hap : ints (stR l) ++ ints b = ints all := by rw [← hall]; simp
  rw [hap, ints_length] at hC ⊢
  have gaX : X ga = none := by
    rcases hC.own with ⟨e, _⟩ | ⟨g, e, hg, _⟩
    · cases e
    · injection e with e _ _; rw [e]; exact hg
  have gaC : C ga = some (.irow T_uint8 .u8 (ints all)) := by
    rcases hC.own with ⟨e, _⟩ | ⟨g, e, _, hg⟩
    · cases e
    · injection e with e _ _; rw [e]; exact hg
  have gah : ga ≠ h := by rintro rfl; rw [x2] at gaX; cases gaX
  simp -implicitDefEqProofs
  have hab : byts all := by rw [← hall]; exact byts_append (byts_drop hl _) hb
  have hWw : ∀ j, Words (mixAll (stW l) j all) := fun j => mixAll_words _ _ (mixAll_words _ _ H256_words)
  have hW : ∀ j, (mixAll (stW l) j all).length = 8 := fun j => mixAll_length _ _ hW8
  refine X_lp (fun (j : Nat) env B => 64 * j ≤ all.length ∧ env 0 = .ptr h 0 ∧ env 4 = .own ga (64 * j) (all.length - 64 * j) ∧ B h = some (hashC (mixAll (stW l) j all) r n') ∧ B ga = some (.irow T_uint8 .u8 (ints all)) ∧ ∀ x c, x ≠ h → X x = some c → B x = some c) (fun j => all.length - 64 * j) 0
    ⟨by omega, by simp, by simp, hC.sub _ _ x2, gaC, fun x c _ hx => hC.sub _ _ hx⟩ ?_
  rintro j env B ⟨hj, e0, e4, fh, fg, fx⟩
  obtain ⟨m, hm⟩ : ∃ m, all.length - 64 * j = m := ⟨_, rfl⟩
  rw [hm] at e4
  unfold hashC at fh
  by_cases h64 : 64 ≤ m
  · have c64 : (64 : Int) ≤ m := by omega
    simp -implicitDefEqProofs [q_Pdigest_Hash_Add_L5, q_Pdigest_Hash_Add_2, q_Pdigest_Hash_Add_3, q_Pdigest_Hash_Add_4, e0, e4, fh, fg, c64, hW, hsz]
    obtain ⟨blk, hblk⟩ : ∃ x, (all.drop (64 * j)).take 64 = x := ⟨_, rfl⟩
    have hbb : byts blk := hblk ▸ byts_take (byts_drop hab _) _
    have hbl64 : blk.length = 64 := by rw [← hblk]; simp; omega
    have hvw := vw_part fg (show 64 * j + 64 ≤ all.length by omega)
    rw [hblk] at hvw
    have hstep := mixAll_succ j (stW l) all
    rw [hblk] at hstep
    refine (w_digest_mix (hWw j) (hW j) hbb hbl64).call (.cons (.refl _) rfl (.cons hvw rfl .nil)) rfl ?_
    have hm8 := mixB_length (mixAll (stW l) j all) blk
    simp -implicitDefEqProofs [e0, e4, fh, fg, hW, hsz, hm8, gah, c64]
    refine lp_next (j + 1) ⟨by omega, by simp [e0], ?_, ?_, by simp [gah, fg], fun x c hx hc => ?_⟩ (by omega)
    · simp; omega
    · rw [hstep]; simp [hashC]
    · rw [Heap.set_ne _ _ hx]; exact fx x c hx hc
  · have c64 : ¬ (64 : Int) ≤ m := by omega
    have hjd : j = all.length / 64 := by omega
    have hrl : (all.drop (64 * j)).take m = all.drop (64 * j) := List.take_of_length_le (by simp; omega)
    have hst : stR (l ++ b) = all.drop (64 * j) := by rw [stR_add, hall, hjd]
    have hsw : stW (l ++ b) = mixAll (stW l) j all := by rw [stW_add, hall, hjd]
    simp -implicitDefEqProofs [q_Pdigest_Hash_Add_L5, q_Pdigest_Hash_Add_2, q_Pdigest_Hash_Add_5, e0, e4, c64]
    intro g7 hg7
    refine (SlS.one (e := T_uint8) (l := []) (n := 0) hg7 rfl).appO (bytes := 1) (ys := ints (stR (l ++ b))) (Sub_refl _) (fun Q hQ => ?_) (by simp only [ints_length, List.length_nil]; have := stR_length (l ++ b); omega) fun g8 C8 h8 => ?_
    · have hne := fresh_ne fg hg7
      rw [hst] at hQ
      simp only [srcI, Heap.set_ne _ _ hne, fg]
      refine ⟨trivial, by simp; omega, ?_⟩
      rw [ints_drop, ints_take, hrl]; exact hQ
    simp only [List.nil_append, ints_length] at h8 ⊢
    have g8B : B g8 = none := by
      rcases h8.own with ⟨e, _⟩ | ⟨g, e, hg, _⟩
      · cases e
      · injection e with e _ _; rw [e]; exact hg
    have g8C : C8 g8 = some (.irow T_uint8 .u8 (ints (stR (l ++ b)))) := by
      rcases h8.own with ⟨e, _⟩ | ⟨g, e, _, hg⟩
      · cases e
      · injection e with e _ _; rw [e]; exact hg
    have fh8 := h8.sub _ _ fh
    have g8h : g8 ≠ h := by rintro rfl; rw [fh] at g8B; cases g8B
    simp -implicitDefEqProofs [e0, fh8, hsz]
    have hnn : n' = (l ++ b).length := by rw [List.length_append, hn']
    refine hk (.own g8 0 (stR (l ++ b)).length) _ ⟨?_, .inr ⟨g8, rfl, by rw [Heap.set_ne _ _ g8h]; exact g8C, g8h⟩⟩ fun x c hx hr hc => ⟨?_, fun n e => ?_⟩
    · rw [hsw, ← hnn]; simp [hashC]
    · rw [Heap.set_ne _ _ hx]; exact h8.sub _ _ (fx x c hx (x1 x c hx hr hc))
    · injection e with e _ _
      subst e
      have := fx _ _ hx (x1 _ _ hx hr hc)
      rw [g8B] at this; cases this
theorem w_Hash_Add {A : Heap} {h : Nat} {r : AV} {l b : List Nat} (hA : HashR A h r l) (hl : byts l) (hb : byts b) (hll : l.length ≤ 100000) (hbl : b.length ≤ 100000) {K Kp : AV → Heap → Prop}
    (hk : ∀ r' A', HashR A' h r' (l ++ b) → (∀ x c, x ≠ h → (∀ n, r ≠ .own x 0 n) → A x = some c → A' x = some c ∧ ∀ n, r' ≠ .own x 0 n) → K (.tuple []) A') : SimX Try.prog F_Pdigest_Hash_Add [.ptr h 0, .isl .u8 (ints b)] A (outK K Kp) :=
  w_Hash_AddV hA hl hb hll hbl (v := .isl .u8 (ints b)) (fun F => by simp) rfl (fun c Q hQ => (show srcI .u8 (.isl .u8 (ints b)) (A.set h c) Q from ⟨rfl, hQ⟩)) hk
end Go.Proofs.Ytfdckjliinpjiaa

/- The walks of the sum that grows: Sum, Of. -/
namespace Go.Proofs.Ytfdckjliinpjiaa
open Go AVL
attribute [-simp] AV.isAgg aappI aapp alen shp good comps
set_option linter.unusedVariables false
set_option linter.unusedSimpArgs false
set_option maxRecDepth 8000

/-- A sum, seen. -/
def hashV (l : List Nat) : AV := .pval (.agg [.iarr .u32 8 (ints (stW l)), .isl .u8 (ints (stR l)), .int .u64 l.length])
theorem hash_vw {A : Heap} {h : Nat} {r : AV} {l : List Nat} (hA : HashR A h r l) : Vw A (.ptr h 0) (hashV l) := by
  refine .ptr hA.at' (.cons (.refl _) (.cons ?_ (.cons (.refl _) .nil)))
  rcases hA.rest with ⟨rfl, h0⟩ | ⟨g, rfl, hg, _⟩
  · rw [h0]; exact .nil .u8
  · exact vw_il' hg rfl
theorem hsum_L18 {s : List Nat} (h8 : s.length = 8) {R : APost} {k : Kt} {env : AEnv} {A : Heap} {g2 g5 g6 : Nat} (e2 : env 2 = .ptr g2 0) (e5 : env 5 = .ptr g5 0) (e6 : env 6 = .ptr g6 0) (e52 : env 52 = .int .i64 0)
    (f2 : A g2 = some (arrB z32)) (f5 : A g5 = some (arr8 s)) (f6 : A g6 = some (arrB z32)) (n2 : g2 ≠ g6) (n5 : g5 ≠ g6)
    (hk : ∀ env' B, env' 2 = .ptr g2 0 → env' 6 = .ptr g6 0 → B g2 = some (arrB z32) → B g6 = some (arrB (outB s)) → XE Try.prog R (.exit 6) k env' B) : X Try.prog R (.loop q_Pdigest_Hash_Sum_L18) k env A := by
  have hol := outB_length s
  refine X_lp (fun (i : Nat) env B => i ≤ 32 ∧ env 2 = .ptr g2 0 ∧ env 5 = .ptr g5 0 ∧ env 6 = .ptr g6 0 ∧ env 52 = .int .i64 i ∧ B g2 = some (arrB z32) ∧ B g5 = some (arr8 s) ∧ B g6 = some (arrB ((outB s).take i ++ List.replicate (32 - i) 0))) (fun i => 32 - i) 0
    ⟨by omega, e2, e5, e6, e52, f2, f5, by rw [List.take_zero, List.nil_append]; exact f6⟩ ?_
  rintro i env B ⟨hi, e2, e5, e6, e52, f2, f5, f6⟩
  simp -implicitDefEqProofs [q_Pdigest_Hash_Sum_L18, q_Pdigest_Hash_Sum_14, e2, e5, e6, e52]
  refine ⟨fun hil => ?_, fun hil => ?_⟩
  · have hio : i < (outB s).length := by omega
    have q1 : IntKind.i64.wrap ((i : Int) / 4) = ((i / 4 : Nat) : Int) := by rw [wrap_i64 (by omega)]; omega
    have q2 : (i : Int).tmod 4 = ((i % 4 : Nat) : Int) := by rw [Int.tmod_eq_emod_of_nonneg (by omega)]; omega
    obtain ⟨d, hd⟩ : ∃ d, i / 4 = d := ⟨_, rfl⟩
    obtain ⟨m, hm⟩ : ∃ m, i % 4 = m := ⟨_, rfl⟩
    have hd8 : d < 8 := by omega
    have hm4 : m < 4 := by omega
    have hbyte := outB_get s i hio
    rw [hd, hm] at hbyte
    rw [hd] at q1; rw [hm] at q2
    have w3 : IntKind.i64.wrap (8 * (m : Int)) = 8 * (m : Int) := wrap_i64 (by omega)
    have w4 : IntKind.i64.wrap (24 - 8 * (m : Int)) = ((24 - 8 * m : Nat) : Int) := by rw [wrap_i64 (by omega)]; omega
    obtain ⟨x, hx⟩ : ∃ x, s.getD d 0 = x := ⟨_, rfl⟩
    have hsd : s[d]?.getD 0 = x := by rw [← hx, List.getD_eq_getElem?_getD]
    have w6 := byte32_of (n := x) (m := 24 - 8 * m) (by omega) (k := ((24 - 8 * m : Nat) : Int)) rfl
    rw [hx] at hbyte
    obtain ⟨y, hy⟩ : ∃ y, x / 2 ^ (24 - 8 * m) % 256 = y := ⟨_, rfl⟩
    rw [hy] at w6 hbyte
    obtain ⟨sh, hsh⟩ : ∃ t, 24 - 8 * m = t := ⟨_, rfl⟩
    rw [hsh] at w4 w6
    have hset := fill_setN hio (show (outB s).length ≤ 32 by omega)
    rw [hbyte] at hset
    obtain ⟨L, hL⟩ : ∃ L, (outB s).take i ++ List.replicate (32 - i) 0 = L := ⟨_, rfl⟩
    have hLl : L.length = 32 := by rw [← hL]; simp [hol]; omega
    rw [hL] at f6 hset
    have c8 : (d : Int) < 8 := by omega
    have c32 : (i : Int) < 32 := by omega
    have p0 : 0 ≤ (sh : Int) := by omega
    have wi : IntKind.i64.wrap ((i : Int) + 1) = (i : Int) + 1 := wrap_i64 (by omega)
    unfold arr8 at f5
    unfold arrB at f6
    simp -implicitDefEqProofs [q_Pdigest_Hash_Sum_15, q_Pdigest_Hash_Sum_16, q_Pdigest_Hash_Sum_17, e2, e5, e6, e52, f5, f6, q1, q2, w3, w4, w6, hsd, h8, c8, c32, hLl, hset, wi, hil]
    refine lp_next (i + 1) ⟨by omega, by simp [e2], by simp [e5], by simp [e6], by simp, by simp [n2, f2], by simp [n5, f5, arr8], ?_⟩ (by omega)
    rw [show 32 - (i + 1) = 31 - i by omega]
    simp [arrB]
  · have hie : i = 32 := by omega
    subst hie
    rw [List.take_of_length_le (by omega), show 32 - 32 = 0 by rfl, List.replicate_zero, List.append_nil] at f6
    refine hk _ _ ?_ ?_ f2 f6
    · simp [e2]
    · simp [e6]
theorem hsum_L12 {W e : List Nat} (hW8 : W.length = 8) (hWw : Words W) (heb : byts e) {nb : Nat} (hel : e.length = 64 * nb) (hem : e.length ≤ 200000) {R : APost} {k : Kt} {env : AEnv} {A : Heap} {g2 g5 ge : Nat}
    (e2 : env 2 = .ptr g2 0) (e3 : env 3 = .own ge 0 e.length) (e5 : env 5 = .ptr g5 0) (f2 : A g2 = some (arrB z32)) (f5 : A g5 = some (arr8 W)) (fe : A ge = some (.irow T_uint8 .u8 (ints e)))
    (hk : ∀ env' B, env' 2 = .ptr g2 0 → env' 5 = .ptr g5 0 → B g2 = some (arrB z32) → B g5 = some (arr8 (mixAll W nb e)) → XE Try.prog R (.exit 4) k env' B) : X Try.prog R (.loop q_Pdigest_Hash_Sum_L12) k env A := by
  have n2 : g2 ≠ g5 := by rintro rfl; rw [f2] at f5; cases f5
  have ne : ge ≠ g5 := by rintro rfl; rw [f5] at fe; cases fe
  have hWw' : ∀ j, Words (mixAll W j e) := fun j => mixAll_words _ _ hWw
  have hW : ∀ j, (mixAll W j e).length = 8 := fun j => mixAll_length _ _ hW8
  refine X_lp (fun (j : Nat) env B => j ≤ nb ∧ env 2 = .ptr g2 0 ∧ env 3 = .own ge (64 * j) (64 * (nb - j)) ∧ env 5 = .ptr g5 0 ∧ B g2 = some (arrB z32) ∧ B g5 = some (arr8 (mixAll W j e)) ∧ B ge = some (.irow T_uint8 .u8 (ints e))) (fun j => nb - j) 0
    ⟨by omega, e2, by rw [e3, hel]; simp, e5, f2, f5, fe⟩ ?_
  rintro j env B ⟨hj, e2, e3, e5, f2, f5, fe⟩
  have f5' := f5
  unfold arr8 at f5'
  by_cases hjn : j < nb
  · obtain ⟨m, hm⟩ : ∃ m, 64 * (nb - j) = m := ⟨_, rfl⟩
    rw [hm] at e3
    have c0 : 0 < m := by omega
    have c64 : (64 : Int) ≤ m := by omega
    obtain ⟨blk, hblk⟩ : ∃ x, (e.drop (64 * j)).take 64 = x := ⟨_, rfl⟩
    have hbb : byts blk := hblk ▸ byts_take (byts_drop heb _) _
    have hbl64 : blk.length = 64 := by rw [← hblk]; simp; omega
    have hvw := vw_part fe (show 64 * j + 64 ≤ e.length by omega)
    rw [hblk] at hvw
    have hstep := mixAll_succ j W e
    rw [hblk] at hstep
    simp -implicitDefEqProofs [q_Pdigest_Hash_Sum_L12, q_Pdigest_Hash_Sum_9, q_Pdigest_Hash_Sum_10, q_Pdigest_Hash_Sum_11, e2, e3, e5, f5', fe, c0, c64, hW]
    refine (w_digest_mix (hWw' j) (hW j) hbb hbl64).call (.cons (.refl _) rfl (.cons hvw rfl .nil)) rfl ?_
    have hm8 := mixB_length (mixAll W j e) blk
    simp -implicitDefEqProofs [e2, e3, e5, f5', fe, ne, hW, hm8, c64]
    refine lp_next (j + 1) ⟨by omega, by simp [e2], ?_, by simp [e5], by simp [n2, f2], ?_, by simp [ne, fe]⟩ (by omega)
    · simp; omega
    · rw [hstep]; simp [arr8]
  · have hje : j = nb := by omega
    subst hje
    rw [Nat.sub_self, Nat.mul_zero] at e3
    simp -implicitDefEqProofs [q_Pdigest_Hash_Sum_L12, q_Pdigest_Hash_Sum_9, e3]
    refine hk _ _ ?_ ?_ f2 f5
    · simp [e2]
    · simp [e5]
theorem hsum_6 {W Rr : List Nat} {N : Int} {m sh y : Nat} {gi n : Nat} {q : Int} {R : APost} {k : Kt} {env : AEnv} {A : Heap} (e0 : env 0 = .pval (.agg [.iarr .u32 8 (ints W), .isl .u8 (ints Rr), .int .u64 N]))
    (e3 : env 3 = .own gi 0 n) (e4 : env 4 = .int .i64 q) (w2 : IntKind.u64.wrap (8 * N) = ((m : Nat) : Int)) (w3 : IntKind.i64.wrap (8 * q) = ((sh : Nat) : Int))
    (w6 : IntKind.u8.wrap (shrI .u64 (m : Int) (sh : Int)) = (y : Int)) (p0 : 0 ≤ (sh : Int)) {l : List Int} {X0 : Heap} (hv : SlS T_uint8 .u8 (.own gi 0 n) l X0 A) (hn : l.length = n) (hb : n ≤ 200000)
    (hk : ∀ env' B g, env' 0 = .pval (.agg [.iarr .u32 8 (ints W), .isl .u8 (ints Rr), .int .u64 N]) → env' 2 = env 2 → env' 3 = .own g 0 (n + 1) → env' 4 = env 4 → SlS T_uint8 .u8 (.own g 0 (n + 1)) (l ++ [(y : Int)]) X0 B → XE Try.prog R .normal k env' B) : X Try.prog R (.region q_Pdigest_Hash_Sum_6) k env A := by
  simp -implicitDefEqProofs [q_Pdigest_Hash_Sum_6, e0, e3, e4, w2, w3, w6]
  intro g5 hg5
  refine hv.appO (bytes := 1) (ys := [(y : Int)]) (sub_none hg5) ?_ (by simp only [List.length_singleton]; omega) fun g6 A6 h6 => ?_
  · intro Q hQ; simpa [srcI] using hQ
  have hl1 : (l ++ [(y : Int)]).length = n + 1 := by simp [hn]
  rw [hl1] at h6 ⊢
  simp -implicitDefEqProofs
  refine hk _ _ g6 ?_ ?_ ?_ ?_ h6 <;> simp [e0, e3, e4]
theorem hsum_core {W Rr d : List Nat} {n : Nat} {N : Int} (hN : N = n) (hRb : byts Rr) (hW8 : W.length = 8) (hWw : Words W) (hsl : Rr.length = n % 64) (hll : n ≤ 100000) (hdl : d.length = 32)
    (hds : ∀ e, Rr ++ [128] ++ List.replicate (zeros n) 0 ++ be8 (8 * n) = e → d = outB (mixAll W (e.length / 64) e)) :
    Gives Try.prog F_Pdigest_Hash_Sum [.pval (.agg [.iarr .u32 8 (ints W), .isl .u8 (ints Rr), .int .u64 N])] (.iarr .u8 32 (ints d)) := by
  refine v_Pdigest_Hash_Sum (by simp) ?_
  simp -implicitDefEqProofs [a_Pdigest_Hash_Sum, q_Pdigest_Hash_Sum_0, q_Pdigest_Hash_Sum_1, -List.reduceReplicate]
  intro g2 g8 n1 n2
  obtain ⟨X2, hX2⟩ : ∃ X : Heap, H0.set g2 (.var T_32_uint8 [.iarr .u8 32 (List.replicate 32 0)]) = X := ⟨_, rfl⟩
  have x2 : X2 g2 = some (arrB z32) := by rw [← hX2]; exact set_eq'
  have x8 : X2 g8 = none := by rw [← hX2]; simp [n1]
  rw [hX2]
  refine (SlS.one (e := T_uint8) (l := []) (n := 0) x8 rfl).appO (bytes := 1) (ys := ints Rr) (Sub_refl _) (fun Q hQ => ⟨rfl, hQ⟩) (by simp only [ints_length, List.length_nil]; omega) fun g9 A9 h9 => ?_
  simp only [List.nil_append, ints_length] at h9 ⊢
  simp -implicitDefEqProofs
  intro g10 hg10
  refine h9.appO (bytes := 1) (ys := [(128 : Int)]) (sub_none hg10) ?_ (by simp only [ints_length, List.length_singleton]; omega) fun g3 A3 h3 => ?_
  · intro Q hQ; simpa [srcI] using hQ
  have hone : ints Rr ++ [(128 : Int)] = ints (padP Rr 0) := by simp [ints, padP]
  rw [hone, ints_length] at h3 ⊢
  have hz : zeros n < 64 := Nat.mod_lt _ (by decide)
  have hzz : zeros Rr.length = zeros n := by unfold zeros; rw [hsl]; omega
  simp -implicitDefEqProofs
  refine X_lp (fun (j : Nat) env B => j ≤ zeros n ∧ env 0 = .pval (.agg [.iarr .u32 8 (ints W), .isl .u8 (ints Rr), .int .u64 N]) ∧ env 2 = .ptr g2 0 ∧ ∃ g, env 3 = .own g 0 (Rr.length + 1 + j) ∧ SlS T_uint8 .u8 (.own g 0 (Rr.length + 1 + j)) (ints (padP Rr j)) X2 B) (fun j => zeros n - j) 0
    ⟨by omega, by simp, by simp, g3, by simp, by simpa using h3⟩ ?_
  rintro j env B ⟨hj, e0, e2, gj, e3, hv⟩
  have hmod : ((Rr.length : Int) + 1 + j).tmod 64 = (((Rr.length + 1 + j) % 64 : Nat) : Int) := by rw [Int.tmod_eq_emod_of_nonneg (by omega)]; omega
  have hex : (Rr.length + 1 + j) % 64 = 56 ↔ j = zeros n := by rw [← hzz] at hj ⊢; unfold zeros at hj ⊢; omega
  by_cases hjz : j = zeros n
  · have hm56 : (Rr.length + 1 + j) % 64 = 56 := hex.2 hjz
    rw [hm56] at hmod
    simp -implicitDefEqProofs [q_Pdigest_Hash_Sum_L4, q_Pdigest_Hash_Sum_2, q_Pdigest_Hash_Sum_4, e3, hmod]
    subst hjz
    have hq0 : padP Rr (zeros n) = padQ Rr n 0 := by simp [padQ]
    rw [hq0] at hv
    obtain ⟨m, hm⟩ : ∃ m, 8 * n = m := ⟨_, rfl⟩
    have w2 : IntKind.u64.wrap (8 * N) = ((m : Nat) : Int) := by rw [hN, wrap_u64 (by omega)]; omega
    refine X_lp (fun (i : Nat) env B => i ≤ 8 ∧ env 0 = .pval (.agg [.iarr .u32 8 (ints W), .isl .u8 (ints Rr), .int .u64 N]) ∧ env 2 = .ptr g2 0 ∧ env 4 = .int .i64 (7 - (i : Int)) ∧ ∃ g, env 3 = .own g 0 (Rr.length + 1 + zeros n + i) ∧ SlS T_uint8 .u8 (.own g 0 (Rr.length + 1 + zeros n + i)) (ints (padQ Rr n i)) X2 B) (fun i => 8 - i) 0
      ⟨by omega, by simp [e0], by simp [e2], by simp, gj, by simp [e3], hv⟩ ?_
    rintro i env B ⟨hi, e0, e2, e4, gi, e3, hv⟩
    by_cases hil : i < 8
    · have c0 : (i : Int) ≤ 7 := by omega
      have w3 : IntKind.i64.wrap (8 * (7 - (i : Int))) = ((8 * (7 - i) : Nat) : Int) := by rw [wrap_i64 (by omega)]; omega
      have w6 := byte_of (n := m) (m := 7 - i) (by omega) (k := ((8 * (7 - i) : Nat) : Int)) rfl
      obtain ⟨sh, hsh⟩ : ∃ s, 8 * (7 - i) = s := ⟨_, rfl⟩
      obtain ⟨y, hy⟩ : ∃ y, m / 256 ^ (7 - i) % 256 = y := ⟨_, rfl⟩
      rw [hsh] at w3 w6; rw [hy] at w6
      have wi : IntKind.i64.wrap (7 - (i : Int) - 1) = 7 - ((i + 1 : Nat) : Int) := by rw [wrap_i64 (by omega)]; omega
      have hlq := padQ_length Rr n i (by omega)
      have hsq := padQ_succ Rr n i (by omega)
      rw [hm, hy] at hsq
      have p0 : 0 ≤ (sh : Int) := by omega
      simp -implicitDefEqProofs [q_Pdigest_Hash_Sum_L8, q_Pdigest_Hash_Sum_5, e4, c0]
      refine hsum_6 (W := W) (Rr := Rr) (q := 7 - (i : Int)) (gi := gi) (n := Rr.length + 1 + zeros n + i) ?_ ?_ ?_ w2 w3 w6 p0 hv (by rw [ints_length, hlq]) (by omega) fun env' B' g e0' e2' e3' e4' h6 => ?_
      · simp [e0]
      · simp [e3]
      · simp [e4]
      have hap : ints (padQ Rr n i) ++ [(y : Int)] = ints (padQ Rr n (i + 1)) := by rw [hsq]; simp [ints]
      rw [hap] at h6
      simp [e2] at e2'
      simp [e4] at e4'
      simp -implicitDefEqProofs [q_Pdigest_Hash_Sum_7, e4', wi]
      exact lp_next (i + 1) ⟨by omega, by simp [e0'], by simp [e2'], by simp, g, by simp [e3', Nat.add_assoc], by simpa only [Nat.add_assoc] using h6⟩ (by omega)
    · have hie : i = 8 := by omega
      subst hie
      simp -implicitDefEqProofs [q_Pdigest_Hash_Sum_L8, q_Pdigest_Hash_Sum_5, e4]
      rw [padQ_full, ← hzz, hzz] at hv
      obtain ⟨e, he⟩ : ∃ e, Rr ++ [128] ++ List.replicate (zeros n) 0 ++ be8 (8 * n) = e := ⟨_, rfl⟩
      have hds := hds e he
      rw [he] at hv
      have hel0 : e.length = Rr.length + 1 + zeros n + 8 := by rw [← he]; simp; omega
      have hel : e.length = 64 * (e.length / 64) := by
        have : zeros n = (119 - n % 64) % 64 := rfl
        omega
      have heb : byts e := by
        rw [← he]
        refine byts_append (byts_append (byts_append hRb ?_) ?_) (be8_byts _)
        · intro x hx; simp at hx; omega
        · intro x hx; rw [List.eq_of_mem_replicate hx]; decide
      obtain ⟨nb, hnb⟩ : ∃ n, e.length / 64 = n := ⟨_, rfl⟩
      rw [hnb] at hds hel
      rw [← hel0] at hv e3
      have ge : B gi = some (.irow T_uint8 .u8 (ints e)) := by
        rcases hv.own with ⟨h, _⟩ | ⟨g, h, _, hg⟩
        · cases h
        · injection h with h _ _; rw [h]; exact hg
      have f2 := hv.sub _ _ x2
      simp -implicitDefEqProofs [q_Pdigest_Hash_Sum_8, e0, hW8]
      intro g5 h5
      refine hsum_L12 hW8 hWw heb hel (by omega) (g2 := g2) (g5 := g5) (ge := gi) ?_ ?_ ?_ ?_ ?_ ?_ fun env' B' e2 e5 f2 f5 => ?_
      · simp [e2]
      · simp [e3]
      · simp
      · simp [fresh_ne f2 h5, f2]
      · simp [arr8]
      · simp [fresh_ne ge h5, ge]
      simp -implicitDefEqProofs [q_Pdigest_Hash_Sum_12, q_Pdigest_Hash_Sum_13, -List.reduceReplicate]
      intro g6 h6
      refine hsum_L18 (mixAll_length nb e hW8) (g2 := g2) (g5 := g5) (g6 := g6) ?_ ?_ ?_ ?_ ?_ ?_ ?_ (fresh_ne f2 h6) (fresh_ne f5 h6) fun env' B'' e2 e6 f2 f6 => ?_
      · simp [e2]
      · simp [e5]
      · simp
      · simp
      · simp [fresh_ne f2 h6, f2]
      · simp [fresh_ne f5 h6, f5]
      · simp [arrB, z32, ints]
      rw [← hds] at f6
      unfold arrB z32 at f2
      unfold arrB at f6
      simp -implicitDefEqProofs [q_Pdigest_Hash_Sum_18, e2, e6, f2, f6, hdl, outOf, -List.reduceReplicate]
  · have hm56 : ¬ (Rr.length + 1 + j) % 64 = 56 := fun e => hjz (hex.1 e)
    obtain ⟨md, hmd⟩ : ∃ m, (Rr.length + 1 + j) % 64 = m := ⟨_, rfl⟩
    rw [hmd] at hmod hm56
    have hm' : ¬ (md : Int) = 56 := by omega
    simp -implicitDefEqProofs [q_Pdigest_Hash_Sum_L4, q_Pdigest_Hash_Sum_2, q_Pdigest_Hash_Sum_3, e3, hmod, hm']
    intro g5 hg5
    refine hv.appO (bytes := 1) (ys := [(0 : Int)]) (sub_none hg5) ?_ (by simp only [ints_length, List.length_singleton, padP_length]; omega) fun g6 A6 h6 => ?_
    · intro Q hQ; simpa [srcI] using hQ
    have hap : ints (padP Rr j) ++ [(0 : Int)] = ints (padP Rr (j + 1)) := by rw [padP_succ]; simp [ints]
    rw [hap, ints_length, padP_length] at h6 ⊢
    simp -implicitDefEqProofs
    exact lp_next (j + 1) ⟨by omega, by simp [e0], by simp [e2], g6, by simp, h6⟩ (by omega)
theorem w_Hash_Sum {l : List Nat} (hl : byts l) (hll : l.length ≤ 100000) : Gives Try.prog F_Pdigest_Hash_Sum [hashV l] (.iarr .u8 32 (ints (dig l))) := by
  refine hsum_core rfl (byts_drop hl _) (mixAll_length _ _ rfl) (mixAll_words _ _ H256_words) (stR_length l) hll (outB_length _) fun e he => ?_
  have h := dig_st l
  rw [he, show (stR l).length / 64 = 0 by rw [stR_length]; omega, Nat.zero_add] at h
  exact h
end Go.Proofs.Ytfdckjliinpjiaa

/- The walk of Of: the sum of texts, one behind the other. -/
namespace Go.Proofs.Ytfdckjliinpjiaa
open Go AVL
attribute [-simp] AV.isAgg aappI aapp alen shp good comps
set_option linter.unusedVariables false
set_option linter.unusedSimpArgs false
set_option maxRecDepth 8000

def txts (L : List (List Nat)) : List AV := L.map fun b => .isl .u8 (ints b)
@[simp] theorem txts_length (L : List (List Nat)) : (txts L).length = L.length := by simp [txts]
@[simp] theorem txts_get (L : List (List Nat)) (i : Nat) (h : i < (txts L).length) : (txts L)[i] = .isl .u8 (ints (L[i]'(by simpa using h))) := by simp [txts]
theorem flat_take {L : List (List Nat)} {i : Nat} (h : i < L.length) : (L.take (i + 1)).flatten = (L.take i).flatten ++ L[i] := by
  rw [List.take_succ_eq_append_getElem h, List.flatten_append]; simp
theorem flat_take_le (L : List (List Nat)) (i : Nat) : (L.take i).flatten.length ≤ L.flatten.length := by
  conv => rhs; rw [← List.take_append_drop i L, List.flatten_append]
  simp
theorem flat_byts {L : List (List Nat)} (h : ∀ b ∈ L, byts b) : byts L.flatten := by
  intro x hx
  obtain ⟨b, hb, hxb⟩ := List.mem_flatten.1 hx
  exact h b hb x hxb
theorem get_le_flat {L : List (List Nat)} {i : Nat} (h : i < L.length) : L[i].length ≤ L.flatten.length := by
  have h1 := flat_take_le L (i + 1)
  rw [flat_take h, List.length_append] at h1
  omega
theorem w_digest_Of {L : List (List Nat)} (hL : ∀ b ∈ L, byts b) (hll : L.flatten.length ≤ 100000) (hn : L.length < 2 ^ 32) :
    Gives Try.prog F_digest_Of [.dsl 1 (txts L)] (.iarr .u8 32 (ints (dig L.flatten))) := by
  refine v_digest_Of (by simp) ?_
  simp -implicitDefEqProofs [a_digest_Of, q_digest_Of_0, q_digest_Of_1, -List.reduceReplicate]
  intro g2
  refine w_digest_New fun h hh hA => ?_
  have hne : g2 ≠ h := by rintro rfl; simp at hh
  obtain ⟨X, hX⟩ : ∃ X, (H0.set g2 (.var T_32_uint8 [.iarr .u8 32 (List.replicate 32 0)])).set h (hashC H256 .nilS 0) = X := ⟨_, rfl⟩
  have x2 : X g2 = some (arrB z32) := by rw [← hX]; simp [hne]; rfl
  rw [hX] at hA ⊢
  simp -implicitDefEqProofs [q_digest_Of_2]
  refine X_lp (fun (i : Nat) env B => i ≤ L.length ∧ env 2 = .ptr g2 0 ∧ env 3 = .ptr h 0 ∧ env 7 = .dsl 1 (txts L) ∧ env 8 = .int .i64 L.length ∧ env 9 = .int .i64 i ∧ B g2 = some (arrB z32) ∧ ∃ r, HashR B h r (L.take i).flatten ∧ ∀ n, r ≠ .own g2 0 n) (fun i => L.length - i) 0
    ⟨by omega, by simp, by simp, by simp, by simp, by simp, x2, .nilS, hA, fun n e => by cases e⟩ ?_
  rintro i env B ⟨hi, e2, e3, e7, e8, e9, f2, r, hr, hrn⟩
  by_cases hil : i < L.length
  · have hil' : (i : Int) < L.length := by omega
    have wi : IntKind.i64.wrap ((i : Int) + 1) = (i : Int) + 1 := wrap_i64 (by omega)
    simp -implicitDefEqProofs [q_digest_Of_L7, q_digest_Of_3, q_digest_Of_4, q_digest_Of_5, e3, e7, e8, e9, hil, hil']
    have hb := hL _ (List.getElem_mem hil)
    have hbl := get_le_flat hil
    have htl := flat_take_le L i
    refine w_Hash_Add hr (flat_byts fun b hb => hL b (List.mem_of_mem_take hb)) hb (by omega) (by omega) fun r' A' hr' hkeep => ?_
    obtain ⟨f2', hrn'⟩ := hkeep g2 _ hne hrn f2
    simp -implicitDefEqProofs [q_digest_Of_6, e9, wi]
    refine lp_next (i + 1) ⟨by omega, by simp [e2], by simp [e3], by simp [e7], by simp [e8], by simp, f2', r', ?_, hrn'⟩ (by omega)
    rw [flat_take hil]; exact hr'
  · have hil' : ¬ (i : Int) < L.length := by omega
    have hie : i = L.length := by omega
    subst hie
    rw [List.take_length] at hr
    unfold arrB z32 at f2
    simp -implicitDefEqProofs [q_digest_Of_L7, q_digest_Of_3, q_digest_Of_7, e2, e3, e8, e9, hil', -List.reduceReplicate]
    refine (w_Hash_Sum (flat_byts hL) hll).call (.cons (hash_vw hr) rfl .nil) rfl ?_
    have hdl : (dig L.flatten).length = 32 := outB_length _
    simp -implicitDefEqProofs [e2, f2, hdl, outOf, -List.reduceReplicate]
end Go.Proofs.Ytfdckjliinpjiaa

/- The walk of word.Whole. -/
namespace Go.Proofs.Ytfdckjliinpjiaa
open Go AVL
attribute [-simp] AV.isAgg aappI aapp alen shp good comps
set_option linter.unusedVariables false
set_option linter.unusedSimpArgs false
set_option maxRecDepth 20000

section
variable {A B C : Heap} {K Kp : AV → Heap → Prop} {P : Program}
/-- Bytes as a sector. -/
def whole (b : List Nat) : List Nat := b.take 256 ++ List.replicate (256 - b.length) 0
theorem whole_len (b : List Nat) : (whole b).length = 256 := by simp [whole]; omega
theorem whole_bytes {b : List Nat} (h : Bytes b) : Bytes (whole b) := fun x hx => by
  rcases List.mem_append.1 hx with hx | hx
  · exact h x (List.mem_of_mem_take hx)
  · rw [List.eq_of_mem_replicate hx]; decide
theorem spl_whole (b : List Nat) : spl (List.replicate 256 0) 0 (ints (b.take 256)) = ints (whole b) := by
  have h : 256 - min 256 b.length = 256 - b.length := by omega
  simp -implicitDefEqProofs [spl, whole, ints, h, -List.reduceReplicate]
theorem w_word_Whole {b : List Nat} (hb : Bytes b) : Gives Try.prog F_word_Whole [.isl .u8 (ints b)] (.iarr .u8 256 (ints (whole b))) := by
  refine v_word_Whole (by simp) ?_
  simp -implicitDefEqProofs [a_word_Whole, q_word_Whole_0, q_word_Whole_1, q_word_Whole_2, q_word_Whole_3, acopy, spl_whole, -List.reduceReplicate]
  intro g g1 n1 n2
  simp -implicitDefEqProofs [n1, n2, -List.reduceReplicate]
end
end Go.Proofs.Ytfdckjliinpjiaa

/- The walks of the chunks' small functions. -/
namespace Go.Proofs.Ytfdckjliinpjiaa
open Go AVL
attribute [-simp] AV.isAgg aappI aapp alen shp good comps
set_option linter.unusedVariables false
set_option linter.unusedSimpArgs false
set_option maxRecDepth 20000

section
variable {A B C : Heap} {K Kp : AV → Heap → Prop} {P : Program}
def chkB (b : List Nat) : Int := if b.length = 0 then 1 else if 2048 < b.length then 15 else 0
theorem w_chunk_Check {b : List Nat} (hl : b.length < 2 ^ 63) : Gives Try.prog F_chunk_Check [.isl .u8 (ints b)] (.int .i64 (chkB b)) := by
  refine v_chunk_Check (by simp) ?_
  by_cases h0 : b.length = 0
  · have : b = [] := List.length_eq_zero_iff.1 h0
    subst this
    simp -implicitDefEqProofs [a_chunk_Check, q_chunk_Check_0, q_chunk_Check_1, q_chunk_Check_2, outOf, chkB]
  · have hb : ¬ b = [] := by rintro rfl; simp at h0
    have h0' : ¬ (b.length : Int) = 0 := by omega
    by_cases h1 : 2048 < b.length
    · have h1' : (2048 : Int) < b.length := by omega
      simp -implicitDefEqProofs [a_chunk_Check, q_chunk_Check_0, q_chunk_Check_1, q_chunk_Check_3, q_chunk_Check_4, outOf, chkB, hb, h0, h0', h1, h1']
    · have h1' : ¬ (2048 : Int) < b.length := by omega
      simp -implicitDefEqProofs [a_chunk_Check, q_chunk_Check_0, q_chunk_Check_1, q_chunk_Check_3, q_chunk_Check_5, outOf, chkB, hb, h0, h0', h1, h1']
theorem w_ref13_Check {b : List Nat} (hl : b.length < 2 ^ 63) : Gives Try.prog F_ref13_Check [.isl .u8 (ints b)] (.int .i64 (chkB b)) := by
  refine v_ref13_Check (by simp) ?_
  by_cases h0 : b.length = 0
  · have : b = [] := List.length_eq_zero_iff.1 h0
    subst this
    simp -implicitDefEqProofs [a_ref13_Check, q_ref13_Check_0, q_ref13_Check_1, q_ref13_Check_2, outOf, chkB]
  · have hb : ¬ b = [] := by rintro rfl; simp at h0
    have h0' : ¬ (b.length : Int) = 0 := by omega
    by_cases h1 : 2048 < b.length
    · have h1' : (2048 : Int) < b.length := by omega
      simp -implicitDefEqProofs [a_ref13_Check, q_ref13_Check_0, q_ref13_Check_1, q_ref13_Check_3, q_ref13_Check_4, outOf, chkB, hb, h0, h0', h1, h1']
    · have h1' : ¬ (2048 : Int) < b.length := by omega
      simp -implicitDefEqProofs [a_ref13_Check, q_ref13_Check_0, q_ref13_Check_1, q_ref13_Check_3, q_ref13_Check_5, outOf, chkB, hb, h0, h0', h1, h1']
def cntI (n : Int) : Int := if n < 1 then 0 else (n - 1) / 256 + 1
theorem w_chunk_Count {n : Int} (h1 : -9223372036854775808 ≤ n) (h2 : n < 9223372036854775808) : Gives Try.prog F_chunk_Count [.int .i64 n] (.int .i64 (cntI n)) := by
  refine v_chunk_Count (by simp) ?_
  by_cases h : n < 1
  · simp -implicitDefEqProofs [a_chunk_Count, q_chunk_Count_0, q_chunk_Count_1, q_chunk_Count_2, outOf, cntI, h]
  · have w1 : IntKind.i64.wrap (n - 1) = n - 1 := wrap_i64 (by omega)
    have w2 : IntKind.i64.wrap ((n - 1).tdiv 256) = (n - 1) / 256 := by rw [Int.tdiv_eq_ediv_of_nonneg (by omega), wrap_i64 (by omega)]
    have w3 : IntKind.i64.wrap ((n - 1) / 256 + 1) = (n - 1) / 256 + 1 := wrap_i64 (by omega)
    simp -implicitDefEqProofs [a_chunk_Count, q_chunk_Count_0, q_chunk_Count_1, q_chunk_Count_3, outOf, cntI, h, w1, w2, w3]
def partI (n i : Int) : Int := if i < 0 ∨ cntI n ≤ i then 0 else if 256 < n - i * 256 then 256 else n - i * 256
theorem w_chunk_Part {n i : Int} (h1 : -9223372036854775808 ≤ n) (h2 : n < 9223372036854775808) : Gives Try.prog F_chunk_Part [.int .i64 n, .int .i64 i] (.int .i64 (partI n i)) := by
  refine v_chunk_Part (by simp) ?_
  by_cases hi : i < 0
  · simp -implicitDefEqProofs [a_chunk_Part, q_chunk_Part_0, q_chunk_Part_1, q_chunk_Part_2, outOf, partI, hi]
  simp -implicitDefEqProofs [a_chunk_Part, q_chunk_Part_0, q_chunk_Part_1, hi]
  refine (w_chunk_Count h1 h2).call (.cons (.refl _) rfl .nil) rfl ?_
  by_cases hc : cntI n ≤ i
  · simp -implicitDefEqProofs [q_chunk_Part_2, outOf, partI, hi, hc]
  · have hb : i * 256 < n ∧ 0 ≤ i := by unfold cntI at hc; split at hc <;> omega
    have w1 : IntKind.i64.wrap (i * 256) = i * 256 := wrap_i64 (by omega)
    have w2 : IntKind.i64.wrap (n - i * 256) = n - i * 256 := wrap_i64 (by omega)
    simp -implicitDefEqProofs [q_chunk_Part_3, outOf, partI, hi, hc, w1, w2]
end
end Go.Proofs.Ytfdckjliinpjiaa

/- The walks of noughts, of a chunk's address, of sectors. -/
namespace Go.Proofs.Ytfdckjliinpjiaa
open Go AVL
attribute [-simp] AV.isAgg aappI aapp alen shp good comps
set_option linter.unusedVariables false
set_option linter.unusedSimpArgs false
set_option maxRecDepth 20000

section
variable {A B C : Heap} {K Kp : AV → Heap → Prop} {P : Program}
def zeroN (b : List Nat) : Bool := b.all (· == 0)
theorem zeroN_take_succ {b : List Nat} {i : Nat} (h : i < b.length) : zeroN (b.take (i + 1)) = (zeroN (b.take i) && (b[i] == 0)) := by
  rw [List.take_succ_eq_append_getElem h]; simp only [zeroN, List.all_append, List.all_cons, List.all_nil, Bool.and_true]
theorem zeroN_false {b : List Nat} {i : Nat} (h : i < b.length) (hx : b[i] ≠ 0) : zeroN b = false := by
  simp only [zeroN, List.all_eq_false]
  exact ⟨b[i], List.getElem_mem h, by simpa using hx⟩
theorem w_word_Zero {b : List Nat} (hl : b.length < 2 ^ 62) : Gives Try.prog F_word_Zero [.isl .u8 (ints b)] (.bool (zeroN b)) := by
  refine v_word_Zero (by simp) ?_
  simp -implicitDefEqProofs [a_word_Zero, q_word_Zero_0, q_word_Zero_1]
  refine X_lp (fun (i : Nat) env B => i ≤ b.length ∧ zeroN (b.take i) = true ∧ env 5 = .isl .u8 (ints b) ∧ env 6 = .int .i64 b.length ∧ env 7 = .int .i64 i) (fun i => b.length - i) 0 ⟨by omega, by simp [zeroN], by simp, by simp, by simp⟩ ?_
  rintro i env B ⟨hi, hz, e5, e6, e7⟩
  by_cases hil : i < b.length
  · have hil' : (i : Int) < b.length := by omega
    have wi : IntKind.i64.wrap ((i : Int) + 1) = (i : Int) + 1 := wrap_i64 (by omega)
    by_cases hx : b[i] = 0
    · simp -implicitDefEqProofs [q_word_Zero_L7, q_word_Zero_2, q_word_Zero_3, q_word_Zero_4, q_word_Zero_6, e5, e6, e7, hil, hil', hx, wi]
      refine lp_next (i + 1) ⟨by omega, by rw [zeroN_take_succ hil, hz, hx]; rfl, by simp [e5], by simp [e6], by simp⟩ (by omega)
    · have hx' : ¬ (b[i] : Int) = 0 := by omega
      simp -implicitDefEqProofs [q_word_Zero_L7, q_word_Zero_2, q_word_Zero_3, q_word_Zero_4, q_word_Zero_5, e5, e6, e7, hil, hil', hx, hx', outOf, zeroN_false hil hx]
  · have hie : i = b.length := by omega
    subst hie
    rw [List.take_length] at hz
    simp -implicitDefEqProofs [q_word_Zero_L7, q_word_Zero_2, q_word_Zero_7, e5, e6, e7, outOf, hz]
theorem w_ref01_Zero {b : List Nat} (hl : b.length < 2 ^ 62) : Gives Try.prog F_ref01_Zero [.isl .u8 (ints b)] (.bool (zeroN b)) := by
  refine v_ref01_Zero (by simp) ?_
  simp -implicitDefEqProofs [a_ref01_Zero, q_ref01_Zero_0, q_ref01_Zero_1]
  refine X_lp (fun (i : Nat) env B => i ≤ b.length ∧ zeroN (b.take i) = true ∧ env 0 = .isl .u8 (ints b) ∧ env 3 = .int .i64 i) (fun i => b.length - i) 0 ⟨by omega, by simp [zeroN], by simp, by simp⟩ ?_
  rintro i env B ⟨hi, hz, e0, e3⟩
  by_cases hil : i < b.length
  · have hil' : (i : Int) < b.length := by omega
    have wi : IntKind.i64.wrap ((i : Int) + 1) = (i : Int) + 1 := wrap_i64 (by omega)
    by_cases hx : b[i] = 0
    · simp -implicitDefEqProofs [q_ref01_Zero_L6, q_ref01_Zero_2, q_ref01_Zero_3, q_ref01_Zero_5, e0, e3, hil, hil', hx, wi]
      refine lp_next (i + 1) ⟨by omega, by rw [zeroN_take_succ hil, hz, hx]; rfl, by simp [e0], by simp⟩ (by omega)
    · have hx' : (0 : Int) < b[i] := by omega
      have hx2 : 0 < b[i] := by omega
      simp -implicitDefEqProofs [q_ref01_Zero_L6, q_ref01_Zero_2, q_ref01_Zero_3, q_ref01_Zero_4, e0, e3, hil, hil', hx, hx', hx2, outOf, zeroN_false hil hx]
  · have hie : i = b.length := by omega
    subst hie
    rw [List.take_length] at hz
    simp -implicitDefEqProofs [q_ref01_Zero_L6, q_ref01_Zero_2, q_ref01_Zero_6, e0, e3, outOf, hz]
def chunkW : List Nat := [99, 104, 117, 110, 107]
theorem chunkW_bytes : Bytes chunkW := by unfold Bytes; decide
def adrC (c : List Nat) : List Nat := dig (chunkW ++ c)
theorem adrC_len (c : List Nat) : (adrC c).length = 32 := outB_length _
theorem w_chunk_Address {c : List Nat} (hc : Bytes c) (hl : c.length ≤ 90000) : Gives Try.prog F_chunk_Address [.isl .u8 (ints c)] (.iarr .u8 32 (ints (adrC c))) := by
  refine v_chunk_Address (by simp) ?_
  simp -implicitDefEqProofs [a_chunk_Address, q_chunk_Address_0, q_chunk_Address_1, -List.reduceReplicate]
  intro g2 g3 n3 n3' g n4 n4' n5 n5'
  have hv : Vw (((H0.set g2 (.var T_32_uint8 [.iarr .u8 32 (List.replicate 32 0)])).set g3 (.irow 5 .u8 [99, 104, 117, 110, 107])).set g (.row T_L_uint8 1 [.own g3 0 5, .isl .u8 (ints c)])) (.own g 0 2) (.dsl 1 (txts [chunkW, c])) :=
    .ownR (i := 0) (n := 2) set_eq' (by simp) (.cons (vw_irow (l := ints chunkW) (by rw [Heap.set_ne _ _ n4']; exact set_eq') rfl) (.cons (.refl _) .nil))
  have hfl : ([chunkW, c] : List (List Nat)).flatten = chunkW ++ c := by simp
  refine (w_digest_Of (L := [chunkW, c]) (fun b hb => ?_) (by rw [hfl]; simp [chunkW]; omega) (by simp)).call (.cons hv rfl .nil) rfl ?_
  · simp only [List.mem_cons, List.not_mem_nil, or_false] at hb
    rcases hb with rfl | rfl
    · unfold byts; decide
    · exact hc
  rw [hfl]
  have h32 : (dig (chunkW ++ c)).length = 32 := outB_length _
  simp -implicitDefEqProofs [outOf, n3', n5', h32, adrC, -List.reduceReplicate]
theorem w_ref13_Said {c : List Nat} (hl : c.length ≤ 90000) : MakesS Try.prog F_ref13_Said [.isl .u8 (ints c)] T_uint8 .u8 (ints (chunkW ++ c)) := by
  refine i_ref13_Said (by simp) fun R hR => ?_
  simp -implicitDefEqProofs [a_ref13_Said, q_ref13_Said_0, q_ref13_Said_1, q_ref13_Said_2]
  intro g
  refine (SlS.one (e := T_uint8) (k := .u8) (l := ints chunkW) (n := 5) (A := H0) (g := g) rfl rfl).appS (ys := ints c) (Sub_refl _) srcI_isl (by simp [chunkW]; omega) fun v C hv hag => ?_
  simp -implicitDefEqProofs [hag]
  refine hR _ _ _ ?_
  simp only [a_ref13_Said, fpost, aress, upd_app, outOf]
  rw [ints_append] at hv
  simpa [hag, outOf, nrm] using hv.fin
theorem w_ref13_Address {c : List Nat} (hc : Bytes c) (hl : c.length ≤ 90000) : Gives Try.prog F_ref13_Address [.isl .u8 (ints c)] (.iarr .u8 32 (ints (adrC c))) := by
  refine v_ref13_Address (by simp) ?_
  simp -implicitDefEqProofs [a_ref13_Address, q_ref13_Address_0, q_ref13_Address_1, -List.reduceReplicate]
  intro g2
  refine (w_ref13_Said hl).call (.cons (.refl _) rfl .nil) fun v C hv => ?_
  have hs := hv.scl
  have c2 := hv.sub _ _ set_eq'
  simp -implicitDefEqProofs [hs.agg, -List.reduceReplicate]
  refine (w_ref03_Sum (b := chunkW ++ c) (fun x hx => ?_) (by simp [chunkW]; omega)).call (.cons hv.vw hs.agg .nil) rfl ?_
  · rcases List.mem_append.1 hx with h | h
    · exact chunkW_bytes x h
    · exact hc x h
  have h32 : (dig (chunkW ++ c)).length = 32 := outB_length _
  simp -implicitDefEqProofs [outOf, c2, h32, adrC, -List.reduceReplicate]
theorem w_chunk_Sector {c : List Nat} (hc : Bytes c) : Gives Try.prog F_chunk_Sector [.isl .u8 (ints c)] (.iarr .u8 256 (ints (whole c))) := by
  refine v_chunk_Sector (by simp) ?_
  simp -implicitDefEqProofs [a_chunk_Sector, q_chunk_Sector_0, q_chunk_Sector_1, -List.reduceReplicate]
  intro g2
  refine (w_word_Whole hc).call (.cons (.refl _) rfl .nil) rfl ?_
  simp -implicitDefEqProofs [outOf, whole_len, -List.reduceReplicate]
end
end Go.Proofs.Ytfdckjliinpjiaa

/- The walk of the chunks' Split. -/
namespace Go.Proofs.Ytfdckjliinpjiaa
open Go AVL
attribute [-simp] AV.isAgg aappI aapp alen shp good comps
set_option linter.unusedVariables false
set_option linter.unusedSimpArgs false
set_option maxRecDepth 20000

section
variable {A B C : Heap} {K Kp : AV → Heap → Prop} {P : Program}
theorem sts_own (n : Nat) (g i : Nat) : AV.sts [.own g i n] = true := rfl
theorem cks_take {b : List Nat} {i : Nat} (h : i < nck b) : (cks b).take (i + 1) = (cks b).take i ++ [ck b i] := by
  rw [List.take_succ_eq_append_getElem (by simpa using h)]; simp [cks]
theorem w_chunk_Split {b : List Nat} (hb : Bytes b) (hlen : b.length < 2 ^ 30) (hk : ∀ v vs C, SlR T_L_uint8 1 v vs A C → All2 (RsV T_uint8 .u8 C) vs (cks b) → K v C) :
    SimX Try.prog F_chunk_Split [.isl .u8 (ints b)] A (outK K Kp) := by
  refine j_chunk_Split (by simp) ?_
  simp -implicitDefEqProofs [a_chunk_Split, q_chunk_Split_0, q_chunk_Split_1, q_chunk_Split_2]
  intro g3 h3
  refine w_chunk_All fun bx hbx => ?_
  simp -implicitDefEqProofs
  intro gy y1 y2 y3 y4 hgy
  obtain ⟨X, hX⟩ : ∃ X, (A.set g3 (.var T_L_L_uint8 [.nilS])).set bx (bxC b 0) = X := ⟨_, rfl⟩
  simp only [set_none] at hbx
  have x3 : X g3 = some (.var T_L_L_uint8 [.nilS]) := by rw [← hX]; simp [hbx]
  have xb : X bx = some (bxC b 0) := by rw [← hX]; simp
  have sX : A.Sub X := by rw [← hX]; exact sub_new (sub_none h3) (by simp [hbx])
  have hXy : X gy = none := by rw [← hX]; simp [y1, y2, y3, y4, hgy]
  rw [hX]
  clear hX
  have key : ∀ (en : List AV) (Q Qp : AV → Heap → Prop), en.length = 15 → en[3]?.getD AV.undef = .ptr g3 0 →
      (∀ C v vs, C g3 = some (.var T_L_L_uint8 [v]) → SlR T_L_uint8 1 v vs A C → All2 (RsV T_uint8 .u8 C) vs (cks b) → C gy = some (.lp en [8, 9] (rfA Try.f40 0) (rfB Try.f40 0) .ready) → Q (.tuple []) C) →
      SimX Try.prog F_chunk_All_1 [.func (.yield gy) [] [], .ptr bx 0] (X.set gy (.lp en [8, 9] (rfA Try.f40 0) (rfB Try.f40 0) .ready)) (outK Q Qp) := by
    intro en Q Qp hn e3 hQ
    have ny3 : g3 ≠ gy := fresh_ne x3 hXy
    have nyb : bx ≠ gy := fresh_ne xb hXy
    refine w_chunk_All_1 hb (by omega) (fun i C => C bx = some (bxC b i) ∧ C gy = some (.lp en [8, 9] (rfA Try.f40 0) (rfB Try.f40 0) .ready) ∧ ∃ v vs, C g3 = some (.var T_L_L_uint8 [v]) ∧ SlR T_L_uint8 1 v vs A C ∧ All2 (RsV T_uint8 .u8 C) vs ((cks b).take i))
      (fun _ => False) (fun i C h => ⟨h.1, _, _, _, _, h.2.1⟩) ?_ ?_ (fun C ⟨c1, c2, v, vs, c3, hv, hall⟩ => hQ C v vs c3 hv (by rwa [List.take_of_length_le (by simp)] at hall) c2) (fun C h => h.elim)
    · exact ⟨by simp [nyb, xb], by simp, .nilS, [], by simp [ny3, x3], SlR.nil (sub_set' sX hgy), trivial⟩
    · rintro i C gc hi ⟨c1, c2, v, vs, c3, hv, hall⟩ hgc
      have hs := hv.scl
      have n1 : bx ≠ gc := fresh_ne c1 hgc
      have n2 : gy ≠ gc := fresh_ne c2 hgc
      have n3 : g3 ≠ gc := fresh_ne c3 hgc
      have hcl := hall.len
      refine rd_chunk_Split_0 (by rw [Heap.set_ne _ _ n2]; exact c2) hn rfl ?_
      simp -implicitDefEqProofs [ra_chunk_Split_0, ra_chunk_Split_0_0, rb_chunk_Split_0, rb_chunk_Split_0_0, roundEnv, n1, n2, n3, ny3, Ne.symm ny3, c2, c3, e3, hs.size, hs.shp, hs.agg, hs.good, hs.comps, hs.st]
      intro g9 m1 m2 m3 m4 h9
      obtain ⟨Z, hZ⟩ : ∃ Z, (C.set gc (.irow T_uint8 .u8 (ints (ck b i)))).set gy (.lp en [8, 9] (rfA Try.f40 0) (rfB Try.f40 0) .busy) = Z := ⟨_, rfl⟩
      have n2' : gc ≠ gy := Ne.symm n2
      have zb : Z bx = some (bxC b i) := by rw [← hZ]; simp [nyb, n1, c1]
      have zy : Z gy = some (.lp en [8, 9] (rfA Try.f40 0) (rfB Try.f40 0) .busy) := by rw [← hZ]; simp
      have z3 : Z g3 = some (.var T_L_L_uint8 [v]) := by rw [← hZ]; simp [ny3, n3, c3]
      have zc : Z gc = some (.irow T_uint8 .u8 (ints (ck b i))) := by rw [← hZ]; simp [n2']
      have z9 : Z g9 = none := by rw [← hZ]; simp [m1, m2, m3, m4, h9]
      have hvZ : SlR T_L_uint8 1 v vs A Z := by
        rw [← hZ]
        exact (hv.mono (sub_none hgc)).setv (sub_noneL sX hXy) (by rw [Heap.set_ne _ _ n2]; exact c2) (by intro l; simp)
      have haZ : All2 (RsV T_uint8 .u8 Z) vs ((cks b).take i) := hall.imp fun v l h => by
        rw [← hZ]
        exact (h.mono (sub_none hgc)).set (by intro l; rw [Heap.set_ne _ _ n2, c2]; simp)
      rw [hZ]
      clear hZ
      obtain ⟨Q', q1, q2, q3, q4, q5⟩ := hvZ.top
      refine q3.appS (ys := [.own gc 0 (ck b i).length]) (sub_none z9) (src_row set_eq' rfl) rfl (by simp; rw [hcl]; simp; unfold nck at hi; omega) fun g' n' C2 hn' hv2 => ?_
      have w3 := hv2.sub _ _ (q4 _ _ z3 (hvZ.ne z3 (by intro l; simp)))
      have wb := hv2.sub _ _ (q4 _ _ zb (hvZ.ne zb (by intro l; simp [bxC])))
      have wy := hv2.sub _ _ (q4 _ _ zy (hvZ.ne zy (by intro l; simp)))
      have wc := hv2.sub _ _ (q4 _ _ zc (hvZ.ne zc (by intro l; simp)))
      have hv2n := hv2.not_base (q4 _ _ z3 (hvZ.ne z3 (by intro l; simp)))
      have hv2y := hv2.not_base (q4 _ _ zy (hvZ.ne zy (by intro l; simp)))
      have hv2b := hv2.not_base (q4 _ _ zb (hvZ.ne zb (by intro l; simp [bxC])))
      have haC : All2 (RsV T_uint8 .u8 C2) (vs ++ [.own gc 0 (ck b i).length]) ((cks b).take (i + 1)) := by
        rw [cks_take hi]
        refine All2.app (haZ.imp fun v l h => h.keep fun x l hx => hv2.sub _ _ (q4 _ _ hx (hvZ.ne hx (by intro l; simp)))) ⟨⟨gc, rfl, wc⟩, trivial⟩
      have nb3 : bx ≠ g3 := hbx.1
      simp -implicitDefEqProofs [e3, w3, wy, ny3, Ne.symm ny3, wb, nyb, Ne.symm nyb, nb3, Ne.symm nb3, hs.size, hs.shp, hs.agg, hs.good, hs.comps, hs.st]
      have t3 : ∀ l, C2 g3 ≠ some (.irow T_uint8 .u8 l) := by intro l; rw [w3]; simp
      refine ⟨_, (((hv2.base q1).set h3 hv2n).set (sub_noneL sX hXy) hv2y).set hbx.2.2 hv2b, haC.imp fun v l h => ?_⟩
      exact ((h.set (by intro l; rw [w3]; simp)).set (by intro l; simp [Ne.symm ny3, wy])).set (by intro l; simp [nyb, nb3, wb, bxC])
  refine key _ _ _ (by simp) (by simp) fun C v vs c3 hv hall hy => ?_
  have hs := hv.scl
  have ny3 : g3 ≠ gy := fresh_ne x3 hXy
  have k3 : (C.del gy) g3 = some (.var T_L_L_uint8 [v]) := by rw [del_app, if_neg ny3]; exact c3
  simp -implicitDefEqProofs [hy, q_chunk_Split_3, k3, hs.size, hs.shp, hs.agg, hs.good, hs.comps, hs.st, outOf]
  refine hk v vs _ ⟨sub_del hv.sub (sub_noneL sX hXy), hv.own.imp id fun ⟨x, p1, p2, p3⟩ => ⟨x, p1, p2, ?_⟩⟩ (hall.imp fun v l h => h.keep fun x l hx => ?_)
  · rw [del_app, if_neg]; exact p3
    rintro rfl; rw [hy] at p3; cases p3
  · rw [del_app, if_neg]; exact hx
    rintro rfl; rw [hy] at hx; cases hx
end
end Go.Proofs.Ytfdckjliinpjiaa

/- The walk of the chunks' addresses. -/
namespace Go.Proofs.Ytfdckjliinpjiaa
open Go AVL
attribute [-simp] AV.isAgg aappI aapp alen shp good comps
set_option linter.unusedVariables false
set_option linter.unusedSimpArgs false
set_option maxRecDepth 20000

section
variable {A B C : Heap} {K Kp : AV → Heap → Prop} {P : Program}
def adV (a : List Nat) : AV := .iarr .u8 32 (ints a)
def ads (L : List (List Nat)) : List AV := L.map adV
@[simp] theorem ads_len (L : List (List Nat)) : (ads L).length = L.length := by simp [ads]
theorem ads_getE {L : List (List Nat)} {i : Nat} (h : i < (ads L).length) : (ads L)[i] = adV (L[i]'(by simpa using h)) := by simp [ads]
theorem ads_noF (L : List (List Nat)) : AV.noFs (ads L) = true := by
  induction L with
  | nil => rfl
  | cons a r ih => simp only [ads, List.map_cons, AV.noFs] at ih ⊢; simp [adV, AV.noF, ih]
def adrL (b : List Nat) : List (List Nat) := (cks b).map adrC
@[simp] theorem adrL_len (b : List Nat) : (adrL b).length = nck b := by simp [adrL]
theorem adrL_take {b : List Nat} {i : Nat} (h : i < nck b) : (adrL b).take (i + 1) = (adrL b).take i ++ [adrC (ck b i)] := by
  rw [List.take_succ_eq_append_getElem (by simpa using h)]; simp [adrL, cks]
theorem sim_Addresses {b : List Nat} (hb : Bytes b) (hlen : b.length < 2 ^ 30) (hk : ∀ v C, SlR T_32_uint8 32 v (ads (adrL b)) A C → K v C) :
    SimX Try.prog F_chunk_Addresses [.isl .u8 (ints b)] A (outK K Kp) := by
  refine j_chunk_Addresses (by simp) ?_
  simp -implicitDefEqProofs [a_chunk_Addresses, q_chunk_Addresses_0, q_chunk_Addresses_1, q_chunk_Addresses_2]
  intro g3 h3
  refine w_chunk_All fun bx hbx => ?_
  simp -implicitDefEqProofs
  intro gy y1 y2 y3 y4 hgy
  obtain ⟨X, hX⟩ : ∃ X, (A.set g3 (.var T_L_32_uint8 [.nilS])).set bx (bxC b 0) = X := ⟨_, rfl⟩
  simp only [set_none] at hbx
  have x3 : X g3 = some (.var T_L_32_uint8 [.nilS]) := by rw [← hX]; simp [hbx]
  have xb : X bx = some (bxC b 0) := by rw [← hX]; simp
  have sX : A.Sub X := by rw [← hX]; exact sub_new (sub_none h3) (by simp [hbx])
  have hXy : X gy = none := by rw [← hX]; simp [y1, y2, y3, y4, hgy]
  rw [hX]
  clear hX
  have key : ∀ (en : List AV) (Q Qp : AV → Heap → Prop), en.length = 16 → en[3]?.getD AV.undef = .ptr g3 0 →
      (∀ C v, C g3 = some (.var T_L_32_uint8 [v]) → SlR T_32_uint8 32 v (ads (adrL b)) A C → C gy = some (.lp en [8, 9] (rfA Try.f47 0) (rfB Try.f47 0) .ready) → Q (.tuple []) C) →
      SimX Try.prog F_chunk_All_1 [.func (.yield gy) [] [], .ptr bx 0] (X.set gy (.lp en [8, 9] (rfA Try.f47 0) (rfB Try.f47 0) .ready)) (outK Q Qp) := by
    intro en Q Qp hn e3 hQ
    have ny3 : g3 ≠ gy := fresh_ne x3 hXy
    have nyb : bx ≠ gy := fresh_ne xb hXy
    refine w_chunk_All_1 hb (by omega) (fun i C => C bx = some (bxC b i) ∧ C gy = some (.lp en [8, 9] (rfA Try.f47 0) (rfB Try.f47 0) .ready) ∧ ∃ v, C g3 = some (.var T_L_32_uint8 [v]) ∧ SlR T_32_uint8 32 v (ads ((adrL b).take i)) A C)
      (fun _ => False) (fun i C h => ⟨h.1, _, _, _, _, h.2.1⟩) ?_ ?_ (fun C ⟨c1, c2, v, c3, hv⟩ => hQ C v c3 (by rwa [List.take_of_length_le (by simp)] at hv) c2) (fun C h => h.elim)
    · exact ⟨by simp [nyb, xb], by simp, .nilS, by simp [ny3, x3], SlR.nil (sub_set' sX hgy)⟩
    · rintro i C gc hi ⟨c1, c2, v, c3, hv⟩ hgc
      have hs := hv.scl
      have n1 : bx ≠ gc := fresh_ne c1 hgc
      have n2 : gy ≠ gc := fresh_ne c2 hgc
      have n3 : g3 ≠ gc := fresh_ne c3 hgc
      have h32 := adrC_len (ck b i)
      have hcb := ck_bytes hb i
      have hcl := ck_len b i
      refine rd_chunk_Addresses_0 (by rw [Heap.set_ne _ _ n2]; exact c2) hn rfl ?_
      simp -implicitDefEqProofs [ra_chunk_Addresses_0, ra_chunk_Addresses_0_0, rb_chunk_Addresses_0, rb_chunk_Addresses_0_0, roundEnv, n1, n2, n3, ny3, Ne.symm ny3, c2, c3, e3, hs.size, hs.shp, hs.agg, hs.good, hs.comps, hs.st]
      obtain ⟨Z, hZ⟩ : ∃ Z, (C.set gc (.irow T_uint8 .u8 (ints (ck b i)))).set gy (.lp en [8, 9] (rfA Try.f47 0) (rfB Try.f47 0) .busy) = Z := ⟨_, rfl⟩
      have n2' : gc ≠ gy := Ne.symm n2
      have zb : Z bx = some (bxC b i) := by rw [← hZ]; simp [nyb, n1, c1]
      have zy : Z gy = some (.lp en [8, 9] (rfA Try.f47 0) (rfB Try.f47 0) .busy) := by rw [← hZ]; simp
      have z3 : Z g3 = some (.var T_L_32_uint8 [v]) := by rw [← hZ]; simp [ny3, n3, c3]
      have zc : Z gc = some (.irow T_uint8 .u8 (ints (ck b i))) := by rw [← hZ]; simp [n2']
      have hvZ : SlR T_32_uint8 32 v (ads ((adrL b).take i)) A Z := by
        rw [← hZ]
        exact (hv.mono (sub_none hgc)).setv (sub_noneL sX hXy) (by rw [Heap.set_ne _ _ n2]; exact c2) (by intro l; simp)
      rw [hZ]
      clear hZ
      refine (w_chunk_Address hcb (by omega)).call (.cons (vw_irow zc (by simp)) rfl .nil) rfl ?_
      simp -implicitDefEqProofs [z3, e3, h32]
      intro g9 z9
      obtain ⟨Q', q1, q2, q3, q4, q5⟩ := hvZ.top
      refine q3.appS (ys := [adV (adrC (ck b i))]) (sub_none z9) (src_row set_eq' rfl) rfl (by simp; unfold nck at hi; omega) fun g' n' C2 hn' hv2 => ?_
      have w3 := hv2.sub _ _ (q4 _ _ z3 (hvZ.ne z3 (by intro l; simp)))
      have wb := hv2.sub _ _ (q4 _ _ zb (hvZ.ne zb (by intro l; simp [bxC])))
      have wy := hv2.sub _ _ (q4 _ _ zy (hvZ.ne zy (by intro l; simp)))
      have hv2n := hv2.not_base (q4 _ _ z3 (hvZ.ne z3 (by intro l; simp)))
      have hv2y := hv2.not_base (q4 _ _ zy (hvZ.ne zy (by intro l; simp)))
      have hv2b := hv2.not_base (q4 _ _ zb (hvZ.ne zb (by intro l; simp [bxC])))
      have haC : ads ((adrL b).take i) ++ [adV (adrC (ck b i))] = ads ((adrL b).take (i + 1)) := by
        rw [adrL_take hi]; simp [ads]
      rw [haC] at hv2
      have nb3 : bx ≠ g3 := hbx.1
      simp -implicitDefEqProofs [e3, w3, wy, ny3, Ne.symm ny3, wb, nyb, Ne.symm nyb, nb3, Ne.symm nb3, hs.size, hs.shp, hs.agg, hs.good, hs.comps, hs.st]
      exact ((hv2.base q1).set h3 hv2n).set (sub_noneL sX hXy) hv2y |>.set hbx.2.2 hv2b
  refine key _ _ _ (by simp) (by simp) fun C v c3 hv hy => ?_
  have hs := hv.scl
  have ny3 : g3 ≠ gy := fresh_ne x3 hXy
  have k3 : (C.del gy) g3 = some (.var T_L_32_uint8 [v]) := by rw [del_app, if_neg ny3]; exact c3
  simp -implicitDefEqProofs [hy, q_chunk_Addresses_3, k3, hs.size, hs.shp, hs.agg, hs.good, hs.comps, hs.st, outOf]
  refine hk v _ ⟨sub_del hv.sub (sub_noneL sX hXy), hv.own.imp id fun ⟨x, p1, p2, p3⟩ => ⟨x, p1, p2, ?_⟩⟩
  rw [del_app, if_neg]; exact p3
  rintro rfl; rw [hy] at p3; cases p3
theorem w_chunk_Addresses {b : List Nat} (hb : Bytes b) (hlen : b.length < 2 ^ 30) : MakesR Try.prog F_chunk_Addresses [.isl .u8 (ints b)] T_32_uint8 32 (ads (adrL b)) :=
  MakesR.of (sim_Addresses hb hlen fun v C h => h)
end
end Go.Proofs.Ytfdckjliinpjiaa

/- The walk of a text's address. -/
namespace Go.Proofs.Ytfdckjliinpjiaa
open Go AVL
attribute [-simp] AV.isAgg aappI aapp alen shp good comps
set_option linter.unusedVariables false
set_option linter.unusedSimpArgs false
set_option maxRecDepth 20000

section
variable {A B C : Heap} {K Kp : AV → Heap → Prop} {P : Program}
def textW : List Nat := [116, 101, 120, 116]
theorem textW_bytes : Bytes textW := by unfold Bytes; decide
def adrT (n : Nat) (L : List (List Nat)) : List Nat := dig (textW ++ le 4 n ++ L.flatten)
theorem adrT_len (n : Nat) (L : List (List Nat)) : (adrT n L).length = 32 := outB_length _
theorem flat_len32 {L : List (List Nat)} (h : ∀ a ∈ L, a.length = 32) : L.flatten.length = 32 * L.length := by
  induction L with
  | nil => rfl
  | cons a r ih =>
    have := h a (by simp)
    simp [ih fun x hx => h x (by simp [hx]), this]; omega
theorem HashR.mono {h : Nat} {r : AV} {l : List Nat} (hA : HashR A h r l) (hs : A.Sub B) : HashR B h r l := ⟨hs _ _ hA.at', hA.rest.imp id fun ⟨g, h1, h2, h3⟩ => ⟨g, h1, hs _ _ h2, h3⟩⟩
theorem w_chunk_Of {n : Nat} {L : List (List Nat)} (hn : n < 2 ^ 63) (hL : ∀ a ∈ L, Bytes a ∧ a.length = 32) (hll : L.length ≤ 1000) : Gives Try.prog F_chunk_Of [.int .i64 n, .dsl 32 (ads L)] (.iarr .u8 32 (ints (adrT n L))) := by
  refine v_chunk_Of (by simp) ?_
  simp -implicitDefEqProofs [a_chunk_Of, q_chunk_Of_0, q_chunk_Of_1, -List.reduceReplicate]
  intro g4
  refine w_digest_New fun h hh hA => ?_
  have hne : g4 ≠ h := by rintro rfl; simp at hh
  obtain ⟨X, hX⟩ : ∃ X, (H0.set g4 (.var T_32_uint8 [.iarr .u8 32 (List.replicate 32 0)])).set h (hashC H256 .nilS 0) = X := ⟨_, rfl⟩
  have x4 : X g4 = some (arrB z32) := by rw [← hX]; simp [hne]; rfl
  rw [hX] at hA ⊢
  clear hX
  simp -implicitDefEqProofs [q_chunk_Of_2]
  intro ga hga
  have na : h ≠ ga := fresh_ne hA.at' hga
  have hA1 : HashR (X.set ga (.irow 5 .u8 [116, 101, 120, 116])) h .nilS [] := hA.mono (sub_none hga)
  refine w_Hash_AddV (b := textW) hA1 (by simp [byts]) textW_bytes (by simp) (by decide) (fun F => by simp [textW]) rfl (fun c Q hQ => srcI_row (by rw [Heap.set_ne _ _ (Ne.symm na)]; exact set_eq') rfl Q hQ) fun r1 A1 h1 keep1 => ?_
  have na4 : g4 ≠ ga := fresh_ne x4 hga
  obtain ⟨y4, z1⟩ := keep1 g4 _ hne (fun n e => by cases e) (by rw [Heap.set_ne _ _ na4]; exact x4)
  have wu : IntKind.u64.wrap (n : Int) = (n : Int) := wrap_u64 (by omega)
  simp -implicitDefEqProofs [q_chunk_Of_3, wu]
  refine (w_word_Put (n := n) (m := 4) (by omega) (by decide)).call (.cons (.refl _) rfl (.cons (.refl _) rfl .nil)) rfl fun gw hgw => ?_
  simp -implicitDefEqProofs
  have nw : h ≠ gw := fresh_ne h1.at' hgw
  have nw4 : g4 ≠ gw := fresh_ne y4 hgw
  have hA2 := h1.mono (sub_none (c := .irow T_uint8 .u8 (ints (le 4 n))) hgw)
  refine w_Hash_AddV (v := .own gw 0 4) (b := le 4 n) hA2 (fun x hx => textW_bytes x (by simpa using hx)) (le_bytes 4 n) (by simp [textW]) (by simp) (fun F => by simp) rfl (fun c Q hQ => srcI_row (by rw [Heap.set_ne _ _ (Ne.symm nw)]; exact set_eq') (by simp) Q hQ) fun r2 A2 h2 keep2 => ?_
  obtain ⟨y5, z2⟩ := keep2 g4 _ hne (fun k e => z1 k e) (by rw [Heap.set_ne _ _ nw4]; exact y4)
  rw [List.nil_append] at h2
  simp -implicitDefEqProofs [q_chunk_Of_4]
  have hpl : (textW ++ le 4 n).length = 8 := by simp [textW]
  have hfl : ∀ i, (L.take i).flatten.length = 32 * (L.take i).length := fun i => flat_len32 fun a ha => (hL a (List.mem_of_mem_take ha)).2
  have hby : ∀ i, byts (textW ++ le 4 n ++ (L.take i).flatten) := fun i x hx => by
    rcases List.mem_append.1 hx with hx | hx
    · rcases List.mem_append.1 hx with hx | hx
      · exact textW_bytes x hx
      · exact le_bytes 4 n x hx
    · obtain ⟨a, ha, hxa⟩ := List.mem_flatten.1 hx
      exact (hL a (List.mem_of_mem_take ha)).1 x hxa
  refine X_lp (fun (i : Nat) env B => i ≤ L.length ∧ env 4 = .ptr g4 0 ∧ env 5 = .ptr h 0 ∧ env 18 = .dsl 32 (ads L) ∧ env 19 = .int .i64 L.length ∧ env 20 = .int .i64 i ∧ B g4 = some (arrB z32) ∧ ∃ r, HashR B h r (textW ++ le 4 n ++ (L.take i).flatten) ∧ ∀ n, r ≠ .own g4 0 n) (fun i => L.length - i) 0
    ⟨by omega, by simp, by simp, by simp, by simp, by simp, y5, r2, by simpa using h2, z2⟩ ?_
  rintro i env B ⟨hi, e4, e5, e18, e19, e20, f4, r, hr, hrn⟩
  by_cases hil : i < L.length
  · have hil' : (i : Int) < L.length := by omega
    have wi : IntKind.i64.wrap ((i : Int) + 1) = (i : Int) + 1 := wrap_i64 (by omega)
    obtain ⟨hb, h32⟩ := hL _ (List.getElem_mem hil)
    have hig : i < (ads L).length := by simpa using hil
    simp -implicitDefEqProofs [q_chunk_Of_L9, q_chunk_Of_5, q_chunk_Of_6, q_chunk_Of_7, e4, e5, e18, e19, e20, hil, hil', hig, ads_getE, adV, h32, -List.reduceReplicate]
    intro g7 h7
    have n7 : h ≠ g7 := fresh_ne hr.at' h7
    have n74 : g4 ≠ g7 := fresh_ne f4 h7
    have hfi := hfl i
    have htl : (L.take i).length ≤ 1000 := by simp; omega
    refine w_Hash_AddV (v := .asl g7 0 32 0 32) (b := L[i]) (hr.mono (sub_none h7)) (hby i) hb (by rw [List.length_append, hpl]; omega) (by omega) (fun F => by simp [h32]) rfl (fun c Q hQ => srcI_asl (by rw [Heap.set_ne _ _ (Ne.symm n7)]; exact set_eq') (by unfold getI; simp) (by simp [h32]) Q hQ) fun r' A' hr' keep => ?_
    obtain ⟨f4', hrn'⟩ := keep g4 _ hne hrn (by rw [Heap.set_ne _ _ n74]; exact f4)
    simp -implicitDefEqProofs [q_chunk_Of_8, e20, wi]
    refine lp_next (i + 1) ⟨by omega, by simp [e4], by simp [e5], by simp [e18], by simp [e19], by simp, f4', r', ?_, hrn'⟩ (by omega)
    rw [flat_take hil, ← List.append_assoc]; exact hr'
  · have hil' : ¬ (i : Int) < L.length := by omega
    have hie : i = L.length := by omega
    subst hie
    have hfi := hfl L.length
    have hbi := hby L.length
    rw [List.take_length] at hr hfi hbi
    unfold arrB z32 at f4
    simp -implicitDefEqProofs [q_chunk_Of_L9, q_chunk_Of_5, q_chunk_Of_9, e4, e5, e19, e20, hil', -List.reduceReplicate]
    refine (w_Hash_Sum hbi (by rw [List.length_append, hpl]; omega)).call (.cons (hash_vw hr) rfl .nil) rfl ?_
    have hdl := adrT_len n L
    unfold adrT at hdl ⊢
    simp -implicitDefEqProofs [e4, f4, hdl, outOf, -List.reduceReplicate]
theorem cks_bytes {b : List Nat} (h : Bytes b) : ∀ c ∈ cks b, Bytes c ∧ c.length ≤ 256 := fun c hc => by
  simp only [cks, List.mem_map] at hc
  obtain ⟨i, _, rfl⟩ := hc
  exact ⟨ck_bytes h i, by rw [ck_len]; omega⟩
theorem dig_bytes (l : List Nat) : Bytes (dig l) := fun x hx => by
  simp only [dig, outB, List.mem_map] at hx
  obtain ⟨i, _, rfl⟩ := hx
  exact Nat.mod_lt _ (by decide)
theorem adrC_bytes (c : List Nat) : Bytes (adrC c) := dig_bytes _
theorem adrL_ok (b : List Nat) : ∀ a ∈ adrL b, Bytes a ∧ a.length = 32 := fun a ha => by
  simp only [adrL, List.mem_map] at ha
  obtain ⟨c, _, rfl⟩ := ha
  exact ⟨adrC_bytes c, adrC_len c⟩
def adrB (b : List Nat) : List Nat := adrT b.length (adrL b)
theorem adrB_len (b : List Nat) : (adrB b).length = 32 := adrT_len _ _
theorem w_chunk_Text {b : List Nat} (hb : Bytes b) (hl : b.length ≤ 100000) : Gives Try.prog F_chunk_Text [.isl .u8 (ints b)] (.iarr .u8 32 (ints (adrB b))) := by
  refine v_chunk_Text (by simp) ?_
  simp -implicitDefEqProofs [a_chunk_Text, q_chunk_Text_0, q_chunk_Text_1, -List.reduceReplicate]
  intro g2
  refine (w_chunk_Addresses hb (by omega)).call (.cons (.refl _) rfl .nil) (ads_noF _) fun v C hv => ?_
  have hs := hv.scl
  have c2 := hv.sub _ _ set_eq'
  simp -implicitDefEqProofs [hs.agg, -List.reduceReplicate]
  refine (w_chunk_Of (n := b.length) (L := adrL b) (by omega) (adrL_ok b) (by simp [nck]; omega)).call (.cons (.refl _) rfl (.cons hv.vw hs.agg .nil)) rfl ?_
  have h32 := adrB_len b
  unfold adrB at h32 ⊢
  simp -implicitDefEqProofs [outOf, c2, h32, -List.reduceReplicate]
end
end Go.Proofs.Ytfdckjliinpjiaa

/- The walk of the reference's Split: parts of what comes in. -/
namespace Go.Proofs.Ytfdckjliinpjiaa
open Go AVL
attribute [-simp] AV.isAgg aappI aapp alen shp good comps szOK aslc
set_option linter.unusedVariables false
set_option linter.unusedSimpArgs false
set_option maxRecDepth 20000

section
variable {A B C D : Heap} {K Kp : AV → Heap → Prop} {P : Program}
theorem ck_succ (b : List Nat) (i : Nat) : ck b (i + 1) = ck (b.drop 256) i := by
  unfold ck; rw [List.drop_drop]; congr 2; omega
theorem cks_more {b : List Nat} (h : 0 < b.length) : cks b = b.take 256 :: cks (b.drop 256) := by
  have hn : nck b = nck (b.drop 256) + 1 := by simp only [nck, List.length_drop]; omega
  unfold cks
  rw [hn, List.range_succ_eq_map, List.map_cons, List.map_map]
  have e0 : ck b 0 = b.take 256 := by simp [ck]
  rw [e0]
  exact congrArg _ (List.map_congr_left fun i _ => ck_succ b i)
theorem cks_nil : cks [] = [] := rfl
theorem w_ref13_Split : ∀ (n : Nat) {b : List Nat} {v : AV} {D A : Heap} {K Kp : AV → Heap → Prop}, b.length ≤ n → n ≤ 100000 → BsV T_uint8 D v b → D.Sub A → (∀ r vs C, SlR T_L_uint8 1 r vs A C → All2 (BsV T_uint8 D) vs (cks b) → K r C) → SimX Try.prog F_ref13_Split [v] A (outK K Kp) := by
  intro n
  induction n using Nat.strongRecOn with
  | ind n ih =>
  intro b v D A K Kp hbn hn hv hD hk
  have hs := hv.scb
  refine j_ref13_Split (by simp) ?_
  by_cases h0 : b.length = 0
  · have hb : b = [] := List.length_eq_zero_iff.1 h0
    subst hb
    simp -implicitDefEqProofs [a_ref13_Split, q_ref13_Split_0, q_ref13_Split_1, q_ref13_Split_2, hv.len, outOf]
    exact hk _ _ _ (SlR.nil (Sub_refl _)) trivial
  have h0' : ¬ (b.length : Int) = 0 := by omega
  have hbne : ¬ b = [] := by rintro rfl; simp at h0
  by_cases h1 : b.length ≤ 256
  · have h1' : (b.length : Int) ≤ 256 := by omega
    simp -implicitDefEqProofs [a_ref13_Split, q_ref13_Split_0, q_ref13_Split_1, q_ref13_Split_3, q_ref13_Split_4, hv.len, h0, h0', hbne, h1, h1', hs.size, hs.shp, hs.agg, hs.good, hs.comps, hs.st, outOf]
    intro g hg
    refine hk _ [v] _ (SlR.one hg (by simp)) ?_
    rw [cks_more (by omega), List.take_of_length_le h1, List.drop_eq_nil_of_le h1, cks_nil]
    exact ⟨hv, trivial⟩
  · have h1' : ¬ (b.length : Int) ≤ 256 := by omega
    simp -implicitDefEqProofs [a_ref13_Split, q_ref13_Split_0, q_ref13_Split_1, q_ref13_Split_3, q_ref13_Split_5, hv.len, h0, h0', hbne, h1, h1', hs.size, hs.shp, hs.agg, hs.good, hs.comps, hs.st, outOf, hv.szOK hD]
    refine hv.slc (lo := 0) (hi := 256) (olo := none) (ohi := some (.int .i64 256)) hD (by omega) (by omega) (fun Q h => h) (fun Q h => h) fun v1 hv1 => ?_
    rw [List.drop_zero, Nat.sub_zero] at hv1
    have hs1 := hv1.scb
    simp -implicitDefEqProofs [hs1.size, hs1.shp, hs1.agg, hs1.good, hs1.comps, hs1.st]
    intro g3 h3
    have hA1 := sub_none (c := .row 22 1 [v1]) h3
    simp -implicitDefEqProofs [q_ref13_Split_6, hv.szOK (sub_tr hD hA1)]
    refine hv.slc (lo := 256) (hi := b.length) (olo := some (.int .i64 256)) (ohi := none) (sub_tr hD hA1) (by omega) (by omega) (fun Q h => h) (fun Q h => h) fun v2 hv2 => ?_
    rw [List.take_of_length_le (by simp)] at hv2
    have hs2 := hv2.scb
    simp -implicitDefEqProofs [hs2.size, hs2.shp, hs2.agg, hs2.good, hs2.comps, hs2.st]
    refine ih (n - 1) (by omega) (by simp; omega) (by omega) hv2 (sub_tr hD hA1) fun r vs C hr hall => ?_
    have hsr := hr.scl
    simp -implicitDefEqProofs [hsr.size, hsr.shp, hsr.agg, hsr.good, hsr.comps, hsr.st]
    have hvl := hall.len
    rw [cks_len] at hvl
    have hst : AV.sts vs = true := sts_all (fun v l (h : BsV T_uint8 D v l) => h.scb.st) hall
    refine (SlR.one (e := 22) (sz := 1) (m := [v1]) (n := 1) h3 rfl).appS (ys := vs) hr.sub (hr.src (Sub_refl _)) hst (by simp only [List.length_cons, List.length_nil, hvl]; unfold nck; simp; omega) fun g' n' C2 hn' hC2 => ?_
    simp -implicitDefEqProofs [outOf]
    refine hk _ _ _ hC2 ?_
    rw [cks_more (by omega)]
    exact ⟨hv1, hall⟩
end
end Go.Proofs.Ytfdckjliinpjiaa

/- The walk of the reference's words of a text. -/
namespace Go.Proofs.Ytfdckjliinpjiaa
open Go AVL
attribute [-simp] AV.isAgg aappI aapp alen shp good comps szOK aslc
set_option linter.unusedVariables false
set_option linter.unusedSimpArgs false
set_option maxRecDepth 20000

section
variable {A B C D : Heap} {K Kp : AV → Heap → Prop} {P : Program}
def wordsT (b : List Nat) : List Nat := textW ++ le 4 b.length ++ (adrL b).flatten
theorem w_ref13_Words {b : List Nat} (hb : Bytes b) (hl : b.length ≤ 90000) : MakesS Try.prog F_ref13_Words [.isl .u8 (ints b)] T_uint8 .u8 (ints (wordsT b)) := by
  refine i_ref13_Words (by simp) fun R hR => ?_
  have wu : IntKind.u64.wrap (b.length : Int) = (b.length : Int) := wrap_u64 (by omega)
  simp -implicitDefEqProofs [a_ref13_Words, q_ref13_Words_0, q_ref13_Words_1, q_ref13_Words_2, wu]
  intro g8
  refine (w_ref01_Put 4 b.length (by omega) (by decide)).call (.cons (.refl _) rfl (.cons (.refl _) rfl .nil)) fun v2 C2 h2 => ?_
  have hs2 := h2.scl
  simp -implicitDefEqProofs [hs2.agg]
  refine (SlS.one (e := T_uint8) (k := .u8) (l := ints textW) (n := 4) (A := H0) (g := g8) rfl rfl).appS (ys := ints (le 4 b.length)) h2.sub (h2.src (Sub_refl _)) (by simp [textW]) fun v3 C3 h3 hag3 => ?_
  have hs3 := h3.scl
  rw [ints_append] at h3
  simp -implicitDefEqProofs [q_ref13_Words_3]
  refine w_ref13_Split b.length (Nat.le_refl _) (by omega) (BsV.isl b) (H0_sub C3) fun r vs C4 hr hall => ?_
  have hsr := hr.scl
  have hvl := hall.len
  rw [cks_len] at hvl
  have h4 := h3.mono hr.sub
  have hra := hr.rowAt
  simp -implicitDefEqProofs [q_ref13_Words_4, hsr.agg]
  refine X_lp (fun (i : Nat) env E => i ≤ nck b ∧ SlS T_uint8 .u8 (env 3) (ints (textW ++ le 4 b.length ++ ((adrL b).take i).flatten)) H0 E ∧ RowAt T_L_uint8 1 r vs E ∧ env 4 = r ∧ env 5 = .int .i64 i) (fun i => nck b - i) 0
    ⟨by omega, by simpa using h4, hra, by simp, by simp⟩ ?_
  clear h4 hra h3 hs3 hr hsr hag3 C3 v3 C4 h2 hs2 C2 v2
  rintro i env E ⟨hi, hv, hra, e4, e5⟩
  have hsr := hra.scl
  by_cases hil : i < nck b
  · have hil' : (i : Int) < nck b := by omega
    have hnb : nck b ≤ 1000 := by unfold nck; omega
    have wi : IntKind.i64.wrap ((i : Int) + 1) = (i : Int) + 1 := wrap_i64 (by omega)
    obtain ⟨gr, r1, r2⟩ := hra.pos (by omega)
    have hiv : i < vs.length := by omega
    obtain ⟨_, hbs⟩ := hall.get i (by simpa using hil)
    have hcki : (cks b)[i]'(by simpa using hil) = ck b i := by simp [cks]
    rw [hcki] at hbs
    have hsb := hbs.scb
    have h32 := adrC_len (ck b i)
    simp -implicitDefEqProofs [q_ref13_Words_L12, q_ref13_Words_5, q_ref13_Words_6, e4, e5, r1, r2, hvl, hil, hil', hiv, hsb.size, hsb.shp, hsb.agg, hsb.good, hsb.comps, hsb.st, -List.reduceReplicate]
    have hckb := ck_bytes hb i
    have hckl := ck_len b i
    refine (w_ref13_Address hckb (by omega)).call (.cons (hbs.mono (H0_sub E)).vw hsb.agg .nil) rfl ?_
    simp -implicitDefEqProofs [h32, -List.reduceReplicate]
    intro g6 h6
    obtain ⟨W, hW⟩ : ∃ W, textW ++ le 4 b.length ++ ((adrL b).take i).flatten = W := ⟨_, rfl⟩
    have hWl : W.length ≤ 40000 := by
      have h1 := flat_len32 (L := (adrL b).take i) fun a ha => (adrL_ok b a (List.mem_of_mem_take ha)).2
      have h2 : ((adrL b).take i).length ≤ 1000 := by simp; omega
      rw [← hW]; simp only [List.length_append, le_length, h1]
      simp only [textW, List.length_cons, List.length_nil]; omega
    have hWs : textW ++ le 4 b.length ++ ((adrL b).take (i + 1)).flatten = W ++ adrC (ck b i) := by
      rw [adrL_take hil, List.flatten_append, ← List.append_assoc, hW]; simp
    have hWs' : textW ++ (le 4 b.length ++ ((adrL b).take (i + 1)).flatten) = W ++ adrC (ck b i) := by rw [← List.append_assoc, hWs]
    rw [hW] at hv
    obtain ⟨a, ha⟩ : ∃ a, adrC (ck b i) = a := ⟨_, rfl⟩
    rw [ha] at h32 hWs hWs' ⊢
    have hvE := hv.mono (sub_none (c := .var 23 [.iarr .u8 32 (ints a)]) h6)
    have hraE : RowAt T_L_uint8 1 (.own gr 0 (nck b)) vs (E.set g6 (.var 23 [.iarr .u8 32 (ints a)])) := .inr ⟨gr, by rw [hvl], by rw [Heap.set_ne _ _ (fresh_ne r2 h6)]; exact r2⟩
    simp -implicitDefEqProofs [q_ref13_Words_7]
    refine X_lp (fun (k : Nat) env E => k ≤ 32 ∧ SlS T_uint8 .u8 (env 3) (ints (W ++ a.take k)) H0 E ∧ RowAt T_L_uint8 1 (.own gr 0 (nck b)) vs E ∧ E g6 = some (.var 23 [.iarr .u8 32 (ints a)]) ∧ env 4 = .own gr 0 (nck b) ∧ env 5 = .int .i64 i ∧ env 6 = .ptr g6 0 ∧ env 7 = .int .i64 k) (fun k => 32 - k) 0
      ⟨by omega, by simpa using hvE, hraE, by simp, by simp [e4, r1, hvl], by simp [e5], by simp, by simp⟩ ?_
    rintro k env E ⟨hk, hv, hra, e6c, e4, e5, e6, e7⟩
    obtain ⟨v, e3⟩ : ∃ v, env 3 = v := ⟨_, rfl⟩
    rw [e3] at hv
    have hs := hv.scl
    by_cases hkl : k < 32
    · have hkl' : (k : Int) < 32 := by omega
      have hka : k < a.length := by omega
      have wk : IntKind.i64.wrap ((k : Int) + 1) = (k : Int) + 1 := wrap_i64 (by omega)
      simp -implicitDefEqProofs [q_ref13_Words_L11, q_ref13_Words_8, q_ref13_Words_9, q_ref13_Words_10, e3, e6, e7, hkl, hkl', hka, e6c, h32, wk, hs.size, hs.shp, hs.agg, hs.good, hs.comps, hs.st]
      intro g9 h9
      obtain ⟨Q', q1, q2, q3, q4, q5⟩ := hv.top
      refine q3.appS (ys := [(a[k] : Int)]) (sub_none h9) (srcI_row set_eq' rfl) (by simp; omega) fun v2 C2 hv2 hag2 => ?_
      simp -implicitDefEqProofs [e7, wk]
      refine lp_next (k + 1) ⟨by omega, ?_, hra.keep fun x l hx => hv2.sub _ _ (q4 _ _ hx (hv.ne hx (by intro l; simp))), hv2.sub _ _ (q4 _ _ e6c (hv.ne e6c (by intro l; simp))), by simp [e4], by simp [e5], by simp [e6], by simp⟩ (by omega)
      have e : ints (W ++ a.take k) ++ [(a[k] : Int)] = ints (W ++ a.take (k + 1)) := by
        rw [List.take_succ_eq_append_getElem hka, ← List.append_assoc]
        simp only [ints, List.map_append, List.map_cons, List.map_nil]
      have hq := hv2.base q1
      rw [e] at hq
      simpa using hq
    · have hke : k = 32 := by omega
      subst hke
      rw [List.take_of_length_le (by omega)] at hv
      simp -implicitDefEqProofs [q_ref13_Words_L11, q_ref13_Words_8, q_ref13_Words_11, e3, e5, e6, e7, wi]
      refine lp_next (i + 1) ⟨by omega, ?_, hra, by simp [e4], by simp⟩ (by omega)
      rw [hWs']; simpa [e3] using hv
  · have hie : i = nck b := by omega
    subst hie
    rw [List.take_of_length_le (by simp), show textW ++ le 4 b.length ++ (adrL b).flatten = wordsT b from rfl] at hv
    obtain ⟨v, e3⟩ : ∃ v, env 3 = v := ⟨_, rfl⟩
    rw [e3] at hv
    have hs := hv.scl
    simp -implicitDefEqProofs [q_ref13_Words_L12, q_ref13_Words_5, q_ref13_Words_12, e3, e4, e5, hra.len, hvl, hs.size, hs.shp, hs.agg, hs.good, hs.comps, hs.st]
    refine hR _ _ _ ?_
    simp only [a_ref13_Words, fpost, aress, upd_app, outOf]
    simpa [hs.agg, outOf, nrm] using hv.fin
theorem w_ref13_Text {b : List Nat} (hb : Bytes b) (hl : b.length ≤ 90000) : Gives Try.prog F_ref13_Text [.isl .u8 (ints b)] (.iarr .u8 32 (ints (adrB b))) := by
  refine v_ref13_Text (by simp) ?_
  simp -implicitDefEqProofs [a_ref13_Text, q_ref13_Text_0, q_ref13_Text_1, -List.reduceReplicate]
  intro g2
  refine (w_ref13_Words hb hl).call (.cons (.refl _) rfl .nil) fun v C hv => ?_
  have hs := hv.scl
  have c2 := hv.sub _ _ set_eq'
  simp -implicitDefEqProofs [hs.agg, -List.reduceReplicate]
  refine (w_ref03_Sum (b := wordsT b) (fun x hx => ?_) ?_).call (.cons hv.vw hs.agg .nil) rfl ?_
  · rcases List.mem_append.1 hx with hx | hx
    · rcases List.mem_append.1 hx with hx | hx
      · exact textW_bytes x hx
      · exact le_bytes 4 _ x hx
    · obtain ⟨a, ha, hxa⟩ := List.mem_flatten.1 hx
      exact (adrL_ok b a ha).1 x hxa
  · have h1 := flat_len32 (L := adrL b) fun a ha => (adrL_ok b a ha).2
    simp only [wordsT, List.length_append, le_length, h1, adrL_len, nck]
    simp only [textW, List.length_cons, List.length_nil]; omega
  have h32 := adrB_len b
  have he : dig (wordsT b) = adrB b := rfl
  rw [he]
  simp -implicitDefEqProofs [outOf, c2, h32, -List.reduceReplicate]
end
end Go.Proofs.Ytfdckjliinpjiaa

/- The walk of the chunks' Join. -/
namespace Go.Proofs.Ytfdckjliinpjiaa
open Go AVL
attribute [-simp] AV.isAgg aappI aapp alen shp good comps szOK aslc
set_option linter.unusedVariables false
set_option linter.unusedSimpArgs false
set_option maxRecDepth 20000

section
variable {A B C D : Heap} {K Kp : AV → Heap → Prop} {P : Program}
def secV (s : List Nat) : AV := .iarr .u8 256 (ints s)
def secs (L : List (List Nat)) : List AV := L.map secV
@[simp] theorem secs_len (L : List (List Nat)) : (secs L).length = L.length := by simp [secs]
theorem secs_getE {L : List (List Nat)} {i : Nat} (h : i < (secs L).length) : (secs L)[i] = secV (L[i]'(by simpa using h)) := by simp [secs]
def SecL (L : List (List Nat)) : Prop := ∀ s ∈ L, Bytes s ∧ s.length = 256
theorem SecL.take {L : List (List Nat)} (h : SecL L) (i : Nat) : SecL (L.take i) := fun s hs => h s (List.mem_of_mem_take hs)
theorem SecL.flat {L : List (List Nat)} (h : SecL L) : L.flatten.length = 256 * L.length := by
  induction L with
  | nil => rfl
  | cons a r ih =>
    have := (h a (by simp)).2
    simp [ih fun x hx => h x (by simp [hx]), this]; omega
theorem SecL.bytes {L : List (List Nat)} (h : SecL L) : Bytes L.flatten := fun x hx => by
  obtain ⟨s, hs, hxs⟩ := List.mem_flatten.1 hx
  exact (h s hs).1 x hxs
/-- What joining comes to: the code, and the bytes. -/
def joinE (n : Int) (L : List (List Nat)) : Int := if n < 1 ∨ 2048 < n then 15 else if (L.length : Int) ≠ (n + 255) / 256 then 1 else if zeroN (L.flatten.drop n.toNat) then 0 else 5
def joinB (n : Int) (L : List (List Nat)) : List Nat := if joinE n L = 0 then L.flatten.take n.toNat else []
theorem flat_at {L : List (List Nat)} (h : SecL L) {i : Nat} (hi : i < L.length) : (L.flatten.drop (256 * i)).take 256 = L[i] := by
  have h1 : L = L.take i ++ L[i] :: L.drop (i + 1) := by rw [List.getElem_cons_drop, List.take_append_drop]
  have h2 : (L.take i).flatten.length = 256 * i := by rw [(h.take i).flat, List.length_take, Nat.min_eq_left (by omega)]
  have h3 := (h _ (List.getElem_mem hi)).2
  conv => lhs; rw [h1]
  rw [List.flatten_append, List.flatten_cons, List.drop_append_of_le_length (by omega), List.drop_of_length_le (by omega), List.nil_append, List.take_append_of_le_length (by omega), List.take_of_length_le (by omega)]
theorem sim_Join {n : Int} {L : List (List Nat)} (hL : SecL L) (hl : L.length ≤ 1000) (h1 : -9223372036854775808 ≤ n) (h2 : n < 9223372036854775808)
    (hk : ∀ v C, SlS T_uint8 .u8 v (ints (joinB n L)) A C → K (.tuple [v, .int .i64 (joinE n L)]) C) : SimX Try.prog F_chunk_Join [.int .i64 n, .dsl 256 (secs L)] A (outK K Kp) := by
  refine j_chunk_Join (by simp) ?_
  have bad : ∀ C, A.Sub C → ∀ c, joinE n L = c → c ≠ 0 → K (.tuple [.nilS, .int .i64 c]) C := fun C hs c hc h0 => by
    have := hk .nilS C (by unfold joinB; rw [if_neg (by rw [hc]; exact h0)]; exact SlS.nil hs)
    rwa [hc] at this
  by_cases hn : n < 1
  · have he : joinE n L = 15 := by unfold joinE; rw [if_pos (.inl hn)]
    simp -implicitDefEqProofs [a_chunk_Join, q_chunk_Join_0, q_chunk_Join_1, q_chunk_Join_2, hn, outOf]
    exact bad _ (Sub_refl _) 15 he (by decide)
  by_cases hn2 : 2048 < n
  · have he : joinE n L = 15 := by unfold joinE; rw [if_pos (.inr hn2)]
    simp -implicitDefEqProofs [a_chunk_Join, q_chunk_Join_0, q_chunk_Join_1, q_chunk_Join_2, hn, hn2, outOf]
    exact bad _ (Sub_refl _) 15 he (by decide)
  simp -implicitDefEqProofs [a_chunk_Join, q_chunk_Join_0, q_chunk_Join_1, q_chunk_Join_3, hn, hn2]
  refine (w_chunk_Count h1 h2).call (.cons (.refl _) rfl .nil) rfl ?_
  have hcnt : cntI n = (n + 255) / 256 := by unfold cntI; rw [if_neg hn]; omega
  by_cases hc : (L.length : Int) = cntI n
  · obtain ⟨N, rfl⟩ : ∃ N : Nat, n = N := ⟨n.toNat, by omega⟩
    have hLl : L.length = (N + 255) / 256 := by omega
    have hfl := hL.flat
    simp -implicitDefEqProofs [q_chunk_Join_5, q_chunk_Join_6, hc]
    have hE : joinE (N : Int) L = if zeroN (L.flatten.drop N) then 0 else 5 := by
      unfold joinE; rw [if_neg (by omega), if_neg (by rw [hc, hcnt]; simp), Int.toNat_natCast]
    refine X_lp (fun (i : Nat) env E => i ≤ L.length ∧ SlS T_uint8 .u8 (env 6) (ints ((L.flatten.take N).take (256 * i))) A E ∧ (i = L.length → zeroN (L.flatten.drop N) = true) ∧ env 0 = .int .i64 N ∧ env 21 = .dsl 256 (secs L) ∧ env 22 = .int .i64 L.length ∧ env 23 = .int .i64 i) (fun i => L.length - i) 0
      ⟨by omega, by simpa using SlS.nil (Sub_refl A), fun h => by omega, by simp, by simp, by simp [hc], by simp⟩ ?_
    rintro i env E ⟨hi, hv, hz, e0, e21, e22, e23⟩
    obtain ⟨v, e6⟩ : ∃ v, env 6 = v := ⟨_, rfl⟩
    rw [e6] at hv
    have hs := hv.scl
    by_cases hil : i < L.length
    · have hil' : (i : Int) < L.length := by omega
      have his : i < (secs L).length := by simpa using hil
      have wi : IntKind.i64.wrap ((i : Int) + 1) = (i : Int) + 1 := wrap_i64 (by omega)
      obtain ⟨hsb, hs256⟩ := hL _ (List.getElem_mem hil)
      have hat := flat_at hL hil
      simp -implicitDefEqProofs [q_chunk_Join_L14, q_chunk_Join_7, q_chunk_Join_8, q_chunk_Join_9, e0, e6, e21, e22, e23, hil, hil', his, secs_getE, secV, hs256, -List.reduceReplicate]
      intro g8 h8
      refine (w_chunk_Part h1 h2).call (.cons (.refl _) rfl (.cons (.refl _) rfl .nil)) rfl ?_
      have hpart : partI N i = ((min 256 (N - 256 * i) : Nat) : Int) := by
        unfold partI; rw [if_neg (by rw [← hc]; omega)]; split <;> omega
      obtain ⟨m, hm⟩ : ∃ m, min 256 (N - 256 * i) = m := ⟨_, rfl⟩
      rw [hm] at hpart
      have hm256 : m ≤ 256 := by omega
      simp -implicitDefEqProofs [q_chunk_Join_10, hpart, hm256]
      refine ⟨by omega, ?_⟩
      have hN1 : 1 ≤ N := by omega
      have hvw : Vw (E.set g8 (.var 54 [.iarr .u8 256 (ints L[i])])) (.asl g8 0 256 m (256 - m)) (.isl .u8 (ints (L[i].drop m))) := by
        have := vw_arrP (i := m) (n := 256 - m) (A := E.set g8 (.var 54 [.iarr .u8 256 (ints L[i])])) set_eq' (by simp [hs256])
        rwa [List.take_of_length_le (by simp [hs256]), ints_drop] at this
      refine (w_word_Zero (b := L[i].drop m) (by simp; omega)).call (.cons hvw rfl .nil) rfl ?_
      have hlast : i + 1 = L.length → L.flatten.drop N = L[i].drop m := fun e => by
        rw [List.take_of_length_le (by rw [List.length_drop, hfl]; omega)] at hat
        rw [← hat, List.drop_drop]; congr 1; omega
      cases hzb : zeroN (L[i].drop m) with
      | true =>
        simp -implicitDefEqProofs [q_chunk_Join_12, hm256, e6, hs.size, hs.shp, hs.agg, hs.good, hs.comps, hs.st]
        refine ⟨by omega, ?_⟩
        obtain ⟨Q', q1, q2, q3, q4, q5⟩ := hv.top
        refine hv.appS (ys := ints (L[i].take m)) (sub_none h8) (srcI_arrP set_eq' (by simp [hs256]) (by simp)) (by simp; omega) fun v2 C2 hv2 hag2 => ?_
        simp -implicitDefEqProofs [q_chunk_Join_13, e23, wi]
        refine lp_next (i + 1) ⟨by omega, ?_, fun e => by rw [hlast e]; exact hzb, by simp [e0], by simp [e21], by simp [e22], by simp⟩ (by omega)
        have hap : (L.flatten.take N).take (256 * i) ++ L[i].take m = (L.flatten.take N).take (256 * (i + 1)) := by
          have e1 : (L.flatten.take N).take (256 * (i + 1)) = (L.flatten.take N).take (256 * i) ++ ((L.flatten.take N).drop (256 * i)).take 256 := by
            rw [show 256 * (i + 1) = 256 * i + 256 by omega, List.take_add]
          have e2 : ((L.flatten.take N).drop (256 * i)).take 256 = L[i].take m := by
            rw [← hat, List.take_take, List.drop_take, List.take_take]; congr 1; omega
          rw [e1, e2]
        rw [ints_append, hap] at hv2
        simpa using hv2
      | false =>
        have hm2 : m < 256 := by
          rcases Nat.lt_or_ge m 256 with h | h
          · exact h
          · rw [List.drop_of_length_le (by omega)] at hzb; cases hzb
        have he : joinE (N : Int) L = 5 := by rw [hE, hlast (by omega), hzb]; rfl
        simp -implicitDefEqProofs [q_chunk_Join_11, outOf]
        exact bad _ (sub_set' hv.sub (sub_noneL hv.sub h8)) 5 he (by decide)
    · have hie : i = L.length := by omega
      subst hie
      have hz' := hz rfl
      have he : joinE (N : Int) L = 0 := by rw [hE, if_pos hz']
      have hb : joinB (N : Int) L = L.flatten.take N := by unfold joinB; rw [if_pos he, Int.toNat_natCast]
      rw [List.take_of_length_le (by simp; omega), ← hb] at hv
      simp -implicitDefEqProofs [q_chunk_Join_L14, q_chunk_Join_7, q_chunk_Join_14, e6, e22, e23, hs.size, hs.shp, hs.agg, hs.good, hs.comps, hs.st, outOf]
      have := hk v E hv
      rwa [he] at this
  · have he : joinE n L = 1 := by unfold joinE; rw [if_neg (by omega), if_pos (by rw [← hcnt]; exact hc)]
    simp -implicitDefEqProofs [q_chunk_Join_4, hc, outOf]
    exact bad _ (Sub_refl _) 1 he (by decide)
theorem w_chunk_Join {n : Int} {L : List (List Nat)} (hL : SecL L) (hl : L.length ≤ 1000) (h1 : -9223372036854775808 ≤ n) (h2 : n < 9223372036854775808) :
    MakesP Try.prog F_chunk_Join [.int .i64 n, .dsl 256 (secs L)] (fun v => .tuple [v, .int .i64 (joinE n L)]) T_uint8 .u8 (ints (joinB n L)) :=
  MakesP.of (sim_Join hL hl h1 h2 fun v C h => ⟨v, rfl, h⟩)
end
end Go.Proofs.Ytfdckjliinpjiaa

/- The walk of the reference's Join. -/
namespace Go.Proofs.Ytfdckjliinpjiaa
open Go AVL
attribute [-simp] AV.isAgg aappI aapp alen shp good comps
set_option linter.unusedVariables false
set_option linter.unusedSimpArgs false
set_option maxRecDepth 20000

section
variable {A B C D : Heap} {K Kp : AV → Heap → Prop} {P : Program}
theorem w_ref13_Join {n : Int} {L : List (List Nat)} (hL : SecL L) (hl : L.length ≤ 1000)
    (hk : ∀ v C, A.Sub C → BsV T_uint8 C v (joinB n L) → K (.tuple [v, .int .i64 (joinE n L)]) C) : SimX Try.prog F_ref13_Join [.int .i64 n, .dsl 256 (secs L)] A (outK K Kp) := by
  refine j_ref13_Join (by simp) ?_
  have bad : ∀ C, A.Sub C → ∀ c, joinE n L = c → c ≠ 0 → K (.tuple [.nilS, .int .i64 c]) C := fun C hs c hc h0 => by
    have := hk .nilS C hs (by unfold joinB; rw [if_neg (by rw [hc]; exact h0)]; exact .inl ⟨rfl, rfl⟩)
    rwa [hc] at this
  by_cases hn : n < 1
  · have he : joinE n L = 15 := by unfold joinE; rw [if_pos (.inl hn)]
    simp -implicitDefEqProofs [a_ref13_Join, q_ref13_Join_0, q_ref13_Join_1, q_ref13_Join_2, hn, outOf]
    exact bad _ (Sub_refl _) 15 he (by decide)
  by_cases hn2 : 2048 < n
  · have he : joinE n L = 15 := by unfold joinE; rw [if_pos (.inr hn2)]
    simp -implicitDefEqProofs [a_ref13_Join, q_ref13_Join_0, q_ref13_Join_1, q_ref13_Join_2, hn, hn2, outOf]
    exact bad _ (Sub_refl _) 15 he (by decide)
  have w1 : IntKind.i64.wrap (n + 255) = n + 255 := wrap_i64 (by omega)
  have w2 : IntKind.i64.wrap ((n + 255).tdiv 256) = (n + 255) / 256 := by rw [Int.tdiv_eq_ediv_of_nonneg (by omega), wrap_i64 (by omega)]
  simp -implicitDefEqProofs [a_ref13_Join, q_ref13_Join_0, q_ref13_Join_1, q_ref13_Join_3, hn, hn2, w1, w2]
  refine ⟨fun hc => ?_, fun hc => ?_⟩
  · obtain ⟨N, rfl⟩ : ∃ N : Nat, n = N := ⟨n.toNat, by omega⟩
    have hLl : L.length = (N + 255) / 256 := by omega
    have hfl := hL.flat
    have hE : joinE (N : Int) L = if zeroN (L.flatten.drop N) then 0 else 5 := by
      unfold joinE; rw [if_neg (by omega), if_neg (by rw [hc]; simp), Int.toNat_natCast]
    simp -implicitDefEqProofs [q_ref13_Join_5, q_ref13_Join_6]
    refine X_lp (fun (i : Nat) env E => i ≤ L.length ∧ SlS T_uint8 .u8 (env 6) (ints (L.take i).flatten) A E ∧ env 0 = .int .i64 N ∧ env 1 = .dsl 256 (secs L) ∧ env 7 = .int .i64 i) (fun i => L.length - i) 0
      ⟨by omega, by simpa using SlS.nil (Sub_refl A), by simp, by simp, by simp⟩ ?_
    rintro i env E ⟨hi, hv, e0, e1, e7⟩
    have hti := (hL.take i).flat
    by_cases hil : i < L.length
    · have hil' : (i : Int) < L.length := by omega
      have his : i < (secs L).length := by simpa using hil
      have wi : IntKind.i64.wrap ((i : Int) + 1) = (i : Int) + 1 := wrap_i64 (by omega)
      obtain ⟨hsb, hs256⟩ := hL _ (List.getElem_mem hil)
      obtain ⟨s, hsv⟩ : ∃ s, L[i] = s := ⟨_, rfl⟩
      have hft : (L.take (i + 1)).flatten = (L.take i).flatten ++ s := by rw [flat_take hil, hsv]
      rw [hsv] at hsb hs256
      have hge : (secs L)[i] = secV s := by rw [secs_getE, hsv]
      obtain ⟨W, hW⟩ : ∃ W, (L.take i).flatten = W := ⟨_, rfl⟩
      rw [hW] at hv hft hti
      have hWl : W.length ≤ 300000 := by rw [hti]; simp; omega
      simp -implicitDefEqProofs [q_ref13_Join_L13, q_ref13_Join_7, q_ref13_Join_8, e0, e1, e7, hil, hil']
      refine X_lp (fun (k : Nat) env E => k ≤ 256 ∧ SlS T_uint8 .u8 (env 6) (ints (W ++ s.take k)) A E ∧ env 0 = .int .i64 N ∧ env 1 = .dsl 256 (secs L) ∧ env 7 = .int .i64 i ∧ env 8 = .int .i64 k) (fun k => 256 - k) 0
        ⟨by omega, by simpa using hv, by simp [e0], by simp [e1], by simp [e7], by simp⟩ ?_
      clear hv
      rintro k env E ⟨hk, hv, e0, e1, e7, e8⟩
      obtain ⟨v, e6⟩ : ∃ v, env 6 = v := ⟨_, rfl⟩
      rw [e6] at hv
      have hs := hv.scl
      by_cases hkl : k < 256
      · have hkl' : (k : Int) < 256 := by omega
        have hka : k < s.length := by omega
        have wk : IntKind.i64.wrap ((k : Int) + 1) = (k : Int) + 1 := wrap_i64 (by omega)
        simp -implicitDefEqProofs [q_ref13_Join_L12, q_ref13_Join_9, q_ref13_Join_10, q_ref13_Join_11, e0, e1, e6, e7, e8, hil, hil', his, hge, secV, hkl, hkl', hka, hs256, hs.size, hs.shp, hs.agg, hs.good, hs.comps, hs.st]
        intro g9 h9
        refine hv.appS (ys := [(s[k] : Int)]) (sub_none h9) (srcI_row set_eq' rfl) (by simp; omega) fun v2 C2 hv2 hag2 => ?_
        simp -implicitDefEqProofs [e8, wk]
        refine lp_next (k + 1) ⟨by omega, ?_, by simp [e0], by simp [e1], by simp [e7], by simp⟩ (by omega)
        have e : ints (W ++ s.take k) ++ [(s[k] : Int)] = ints (W ++ s.take (k + 1)) := by
          rw [List.take_succ_eq_append_getElem hka, ← List.append_assoc]
          simp only [ints, List.map_append, List.map_cons, List.map_nil]
        rw [e] at hv2
        simpa using hv2
      · have hke : k = 256 := by omega
        subst hke
        rw [List.take_of_length_le (by omega), ← hft] at hv
        simp -implicitDefEqProofs [q_ref13_Join_L12, q_ref13_Join_9, q_ref13_Join_12, e6, e7, e8, wi]
        exact lp_next (i + 1) ⟨by omega, by simpa [e6] using hv, by simp [e0], by simp [e1], by simp⟩ (by omega)
    · have hie : i = L.length := by omega
      subst hie
      rw [List.take_length] at hv
      obtain ⟨v, e6⟩ : ∃ v, env 6 = v := ⟨_, rfl⟩
      rw [e6] at hv
      obtain ⟨g, r1, r2, r3⟩ := hv.pos (by simp [hfl]; omega)
      obtain ⟨M, hM⟩ : ∃ M, 256 * L.length = M := ⟨_, rfl⟩
      rw [hM] at hfl
      rw [ints_length, hfl] at r1
      subst r1
      have hNl : N ≤ M := by omega
      have hNl' : (N : Int) ≤ M := by omega
      simp -implicitDefEqProofs [q_ref13_Join_L13, q_ref13_Join_7, q_ref13_Join_13, e0, e1, e6, e7, szOK, aslc, r3, hNl, hNl']
      have hvw := vw_part (i := N) (n := M - N) r3 (by omega)
      rw [List.take_of_length_le (by rw [List.length_drop, hfl]; omega)] at hvw
      refine (w_ref01_Zero (b := L.flatten.drop N) (by rw [List.length_drop, hfl]; omega)).call (.cons hvw rfl .nil) rfl ?_
      cases hzb : zeroN (L.flatten.drop N) with
      | true =>
        have he : joinE (N : Int) L = 0 := by rw [hE, if_pos hzb]
        have hb : joinB (N : Int) L = L.flatten.take N := by unfold joinB; rw [if_pos he, Int.toNat_natCast]
        simp -implicitDefEqProofs [q_ref13_Join_15, e0, e6, szOK, aslc, r3, hNl, hNl', outOf]
        have := hk (.own g 0 N) E hv.sub (by rw [hb]; exact .inr (.inr ⟨g, 0, N, L.flatten, rfl, r3, by omega, by simp⟩))
        rwa [he] at this
      | false =>
        have he : joinE (N : Int) L = 5 := by rw [hE, hzb]; rfl
        simp -implicitDefEqProofs [q_ref13_Join_14, outOf]
        exact bad _ hv.sub 5 he (by decide)
  · have he : joinE n L = 1 := by unfold joinE; rw [if_neg (by omega), if_pos hc]
    simp -implicitDefEqProofs [q_ref13_Join_4, outOf]
    exact bad _ (Sub_refl _) 1 he (by decide)
end
end Go.Proofs.Ytfdckjliinpjiaa

/- The chunks' Split, its text seen by value; the law's works. -/
namespace Go.Proofs.Ytfdckjliinpjiaa
open Go AVL
attribute [-simp] AV.isAgg aappI aapp alen shp good comps szOK aslc
set_option linter.unusedVariables false
set_option linter.unusedSimpArgs false
set_option maxRecDepth 20000

section
variable {A B C D : Heap} {K Kp : AV → Heap → Prop} {P : Program}
theorem rs_noF {e : TypeId} {k : IntKind} : ∀ {vs : List AV} {L : List (List Nat)}, All2 (RsV e k B) vs L → AV.noFs vs = true
  | [], [], _ => rfl
  | v :: vs, l :: L, h => by
    obtain ⟨⟨g, rfl, _⟩, h2⟩ := h
    simp [AV.noFs, AV.noF, rs_noF h2]
  | [], _ :: _, h => h.elim
  | _ :: _, [], h => h.elim
theorem chunk_Split_call {b : List Nat} {args : List AV} (hb : Bytes b) (hlen : b.length < 2 ^ 30) (hv : VwL A args [.isl .u8 (ints b)]) (hk : ∀ v vs C, SlR T_L_uint8 1 v vs A C → All2 (RsV T_uint8 .u8 C) vs (cks b) → K v C) :
    SimX Try.prog F_chunk_Split args A (outK K Kp) := by
  refine SimX.alone (w_chunk_Split (A := H0) (K := fun v C => ∃ vs, SlR T_L_uint8 1 v vs H0 C ∧ All2 (RsV T_uint8 .u8 C) vs (cks b)) (Kp := fun _ _ => False) hb hlen fun v vs C h1 h2 => ⟨vs, h1, h2⟩) hv (fun o B ho => ?_) fun o B C ho hs hp => ?_
  · cases o with
    | ret v => obtain ⟨vs, h1, _⟩ := ho; exact h1.scl.noF
    | pan v => exact ho.elim
  · cases o with
    | pan v => exact ho.elim
    | ret v =>
      obtain ⟨vs, h1, h2⟩ := ho
      refine hk v vs C ⟨hs, h1.own.imp id fun ⟨g, e, _, hg⟩ => ?_⟩ (h2.imp fun v l h => h.keep fun x l hx => (hp x _ hx rfl).2)
      obtain ⟨p1, p2⟩ := hp g _ hg (rs_noF h2)
      exact ⟨g, e, p1, p2⟩
def Z300 : List Nat := List.replicate 299 0 ++ [7]
theorem Z300_bytes : Bytes Z300 := by unfold Bytes; decide +kernel
theorem Z300_ne : ¬ adrC (ck Z300 0) = adrC (ck Z300 1) := by decide +kernel
theorem Z300_zero : zeroN ((([whole (ck Z300 0), whole (ck Z300 1)] : List (List Nat)).flatten).drop 299) = false := by decide +kernel
theorem Z300_join : joinE 300 [whole (ck Z300 0), whole (ck Z300 1)] = 0 ∧ joinB 300 [whole (ck Z300 0), whole (ck Z300 1)] = Z300 ∧ joinE 299 [whole (ck Z300 0), whole (ck Z300 1)] = 5 ∧ joinE 256 [whole (ck Z300 0), whole (ck Z300 1)] = 1 := by decide +kernel
end
end Go.Proofs.Ytfdckjliinpjiaa

/- The walk of the chunks' law's works. -/
namespace Go.Proofs.Ytfdckjliinpjiaa
open Go AVL
attribute [-simp] AV.isAgg aappI aapp alen shp good comps szOK aslc List.reduceReplicate
set_option linter.unusedVariables false
set_option linter.unusedSimpArgs false
set_option maxRecDepth 20000

section
variable {A B C D : Heap} {K Kp : AV → Heap → Prop} {P : Program}
theorem w_law13_works : Gives Try.prog F_law13_works [] (.bool true) := by
  refine v_law13_works (by simp) ?_
  obtain ⟨Z, hZ⟩ : ∃ Z, Z300 = Z := ⟨_, rfl⟩
  have hZi : (List.replicate 300 (0 : Int)).set 299 7 = ints Z := by rw [← hZ]; decide +kernel
  have hZb := Z300_bytes
  have hZl : Z300.length = 300 := by decide +kernel
  have hne := Z300_ne
  obtain ⟨j1, j2, j3, j4⟩ := Z300_join
  rw [hZ] at hZb hZl hne j1 j2 j3 j4
  clear hZ
  have hn2 : nck Z = 2 := by simp [nck, hZl]
  have hck : cks Z = [ck Z 0, ck Z 1] := by simp [cks, hn2, List.range_succ]
  have hl0 : (ck Z 0).length = 256 := by rw [ck_len, hZl]; rfl
  have hl1 : (ck Z 1).length = 44 := by rw [ck_len, hZl]; rfl
  have hb0 := ck_bytes hZb 0
  have hb1 := ck_bytes hZb 1
  simp -implicitDefEqProofs [a_law13_works, q_law13_works_0, q_law13_works_1, q_law13_works_2]
  intro g1
  rw [hZi]
  simp -implicitDefEqProofs [q_law13_works_3]
  refine chunk_Split_call hZb (by omega) (.cons (vw_irow set_eq' (by simp [hZl])) rfl .nil) fun v vs C hv hall => ?_
  have c1 := hv.sub _ _ set_eq'
  have hs := hv.scl
  have hvl := hall.len
  rw [cks_len, hn2] at hvl
  obtain ⟨gr, r1, r2, r3⟩ := hv.pos (by omega)
  rw [hvl] at r1
  subst r1
  obtain ⟨i0, ⟨ga, e0, ca⟩⟩ := hall.get 0 (by simp [hn2])
  obtain ⟨i1, ⟨gb, e1, cb⟩⟩ := hall.get 1 (by simp [hn2])
  have k0 : (cks Z)[0]'(by simp [hn2]) = ck Z 0 := by simp [cks]
  have k1 : (cks Z)[1]'(by simp [hn2]) = ck Z 1 := by simp [cks]
  rw [k0] at e0 ca
  rw [k1] at e1 cb
  rw [hl0] at e0
  rw [hl1] at e1
  have h2v : 1 < vs.length := by omega
  have h0v : 0 < vs.length := by omega
  simp -implicitDefEqProofs [q_law13_works_4, q_law13_works_6, r3, h0v, h2v, e0, e1]
  refine (w_chunk_Sector hb0).call (.cons (vw_irow ca (by simp [hl0])) rfl .nil) rfl ?_
  have hw0 := whole_len (ck Z 0)
  have hw1 := whole_len (ck Z 1)
  obtain ⟨W0, hW0⟩ : ∃ W, whole (ck Z 0) = W := ⟨_, rfl⟩
  obtain ⟨W1, hW1⟩ : ∃ W, whole (ck Z 1) = W := ⟨_, rfl⟩
  rw [hW0] at hw0
  rw [hW1] at hw1
  have hSec : SecL [W0, W1] := by
    intro s hs
    simp only [List.mem_cons, List.not_mem_nil, or_false] at hs
    rcases hs with rfl | rfl
    · exact ⟨by rw [← hW0]; exact whole_bytes hb0, hw0⟩
    · exact ⟨by rw [← hW1]; exact whole_bytes hb1, hw1⟩
  rw [hW0, hW1] at j1 j2 j3 j4
  rw [hW0]
  simp -implicitDefEqProofs [r3, h0v, h2v, e0, e1]
  refine (w_chunk_Sector hb1).call (.cons (vw_irow cb (by simp [hl1])) rfl .nil) rfl ?_
  rw [hW1]
  simp -implicitDefEqProofs [hw0, hw1]
  intro gs hgs
  have s1 := sub_none (c := .row 54 256 [.iarr .u8 256 (ints W0), .iarr .u8 256 (ints W1)]) hgs
  have d1 := s1 _ _ c1
  have dr := s1 _ _ r3
  have da := s1 _ _ ca
  have db := s1 _ _ cb
  have ds : (C.set gs (.row 54 256 [.iarr .u8 256 (ints W0), .iarr .u8 256 (ints W1)])) gs = some (.row 54 256 (secs [W0, W1])) := set_eq'
  generalize (C.set gs (.row 54 256 [.iarr .u8 256 (ints W0), .iarr .u8 256 (ints W1)])) = E at *
  have nF : ∀ c : Int, ∀ v : AV, v.noF = true → (AV.tuple [v, .int .i64 c]).noF = true := fun c v h => by simp [AV.noF, AV.noFs, h]
  simp -implicitDefEqProofs [q_law13_works_7]
  refine (w_chunk_Join (n := 300) hSec (by simp) (by decide) (by decide)).call (.cons (.refl _) rfl (.cons (vw_row ds rfl) rfl .nil)) (nF _) fun t E1 ht => ?_
  rw [j1]
  rw [j2] at ht
  have hts := ht.scl
  simp -implicitDefEqProofs [hts.agg, q_law13_works_8]
  refine (w_chunk_Join (n := 299) hSec (by simp) (by decide) (by decide)).call (.cons (.refl _) rfl (.cons (vw_row (ht.sub _ _ ds) rfl) rfl .nil)) (nF _) fun t2 E2 ht2 => ?_
  rw [j3]
  have hts2 := ht2.scl
  have ht' := ht.mono ht2.sub
  simp -implicitDefEqProofs [hts2.agg, q_law13_works_9]
  refine (w_chunk_Join (n := 256) hSec (by simp) (by decide) (by decide)).call (.cons (.refl _) rfl (.cons (vw_row (ht'.sub _ _ ds) rfl) rfl .nil)) (nF _) fun t3 E3 ht3 => ?_
  rw [j4]
  have hts3 := ht3.scl
  have ht'' := ht'.mono ht3.sub
  have f1 := ht''.sub _ _ d1
  have fr := ht''.sub _ _ dr
  have fa := ht''.sub _ _ da
  have fb := ht''.sub _ _ db
  simp -implicitDefEqProofs [hts3.agg, q_law13_works_10, fr, h0v, h2v, e0, e1, hts.size, hts.shp, hts.agg, hts.good, hts.comps, hts.st]
  refine (w_ref01_Same Z Z hZb hZb).call (.cons ht''.vw hts.agg (.cons (vw_irow f1 (by simp [hZl])) rfl .nil)) rfl ?_
  simp -implicitDefEqProofs
  refine (w_chunk_Check (b := []) (by decide)).call (.cons (.nil _) rfl .nil) rfl ?_
  simp -implicitDefEqProofs [chkB]
  refine (w_chunk_Count (n := 257) (by decide) (by decide)).call (.cons (.refl _) rfl .nil) rfl ?_
  simp -implicitDefEqProofs [cntI]
  refine (w_chunk_Count (n := 0) (by decide) (by decide)).call (.cons (.refl _) rfl .nil) rfl ?_
  simp -implicitDefEqProofs [cntI]
  refine (w_chunk_Part (n := 300) (i := 1) (by decide) (by decide)).call (.cons (.refl _) rfl (.cons (.refl _) rfl .nil)) rfl ?_
  rw [show partI 300 1 = 44 by decide]
  simp -implicitDefEqProofs
  refine (w_chunk_Part (n := 300) (i := 2) (by decide) (by decide)).call (.cons (.refl _) rfl (.cons (.refl _) rfl .nil)) rfl ?_
  rw [show partI 300 2 = 0 by decide]
  simp -implicitDefEqProofs
  refine (w_chunk_Text hZb (by omega)).call (.cons (vw_irow f1 (by simp [hZl])) rfl .nil) rfl ?_
  simp -implicitDefEqProofs
  refine (w_chunk_Addresses hZb (by omega)).call (.cons (vw_irow f1 (by simp [hZl])) rfl .nil) (ads_noF _) fun v9 E9 hv9 => ?_
  have hs9 := hv9.scl
  simp -implicitDefEqProofs [hs9.size, hs9.shp, hs9.agg, hs9.good, hs9.comps, hs9.st]
  refine (w_chunk_Of (n := 300) (L := adrL Z) (by decide) (adrL_ok Z) (by simp [hn2])).call (.cons (.refl _) rfl (.cons hv9.vw hs9.agg .nil)) rfl ?_
  have hBl := adrB_len Z
  have hBe : adrT 300 (adrL Z) = adrB Z := by unfold adrB; rw [hZl]
  have hA0 := adrC_len (ck Z 0)
  have hA1 := adrC_len (ck Z 1)
  have gr9 := hv9.sub _ _ fr
  have ga9 := hv9.sub _ _ fa
  have gb9 := hv9.sub _ _ fb
  rw [hBe]
  simp -implicitDefEqProofs [eqI_ints hBl hBl, gr9, h0v, h2v, e0, e1]
  refine (w_chunk_Address hb0 (by omega)).call (.cons (vw_irow ga9 (by simp [hl0])) rfl .nil) rfl ?_
  simp -implicitDefEqProofs [gr9, h0v, h2v, e0, e1]
  refine (w_chunk_Address hb1 (by omega)).call (.cons (vw_irow gb9 (by simp [hl1])) rfl .nil) rfl ?_
  simp -implicitDefEqProofs [eqI_ints hA0 hA1, hne, outOf]
end
end Go.Proofs.Ytfdckjliinpjiaa

/- The walk of ChunkNames. -/
namespace Go.Proofs.Ytfdckjliinpjiaa
open Go AVL
attribute [-simp] AV.isAgg aappI aapp alen shp good comps szOK aslc List.reduceReplicate
set_option linter.unusedVariables false
set_option linter.unusedSimpArgs false
set_option maxRecDepth 20000

section
variable {A B C D : Heap} {K Kp : AV → Heap → Prop} {P : Program}
theorem w_ChunkNames {b : List Nat} (hb : Bytes b) (hbl : b.length < 2 ^ 63) : Gives Try.prog F_law13_ChunkNames [.isl .u8 (ints b)] (.bool true) := by
  refine v_law13_ChunkNames (by simp) ?_
  by_cases h20 : 2048 < b.length
  · have h20' : (2048 : Int) < b.length := by omega
    simp -implicitDefEqProofs [a_law13_ChunkNames, q_law13_ChunkNames_0, q_law13_ChunkNames_1, q_law13_ChunkNames_2, h20, h20']
    refine w_law13_works.call .nil rfl ?_
    simp -implicitDefEqProofs [outOf]
  have h20' : ¬ (2048 : Int) < b.length := by omega
  have hnk : nck b ≤ 8 := by unfold nck; omega
  simp -implicitDefEqProofs [a_law13_ChunkNames, q_law13_ChunkNames_0, q_law13_ChunkNames_1, q_law13_ChunkNames_3, h20, h20']
  refine (w_chunk_Addresses hb (by omega)).call (.cons (.refl _) rfl .nil) (ads_noF _) fun v C hv => ?_
  have hs := hv.scl
  simp -implicitDefEqProofs [hs.agg]
  refine w_ref13_Split b.length (Nat.le_refl _) (by omega) (BsV.isl b) (H0_sub C) fun r vs E hr hall => ?_
  have hsr := hr.scl
  have hvl := hall.len
  rw [cks_len] at hvl
  have hvE := hv.mono hr.sub
  simp -implicitDefEqProofs [hsr.agg, hs.agg, q_law13_ChunkNames_4, q_law13_ChunkNames_6, hv.len, hr.len, hvl]
  have hrow := hvE.rowAt
  have hrr := hr.rowAt
  refine X_lp (fun (i : Nat) env B => i ≤ nck b ∧ E = B ∧ env 0 = .isl .u8 (ints b) ∧ env 3 = v ∧ env 4 = r ∧ env 5 = .int .i64 i) (fun i => nck b - i) 0
    ⟨by omega, rfl, by simp, by simp, by simp, by simp⟩ ?_
  rintro i env B ⟨hi, rfl, e0, e3, e4, e5⟩
  by_cases hil : i < nck b
  · have hil' : (i : Int) < nck b := by omega
    have wi : IntKind.i64.wrap ((i : Int) + 1) = (i : Int) + 1 := wrap_i64 (by omega)
    obtain ⟨ga, a1, a2⟩ := hrow.pos (by simp; omega)
    obtain ⟨gr, r1, r2⟩ := hrr.pos (by omega)
    rw [ads_len, adrL_len] at a1
    rw [hvl] at r1
    have hiv : i < vs.length := by omega
    have hia : i < (ads (adrL b)).length := by simpa using hil
    obtain ⟨_, hbs⟩ := hall.get i (by simpa using hil)
    have hcki : (cks b)[i]'(by simpa using hil) = ck b i := by simp [cks]
    rw [hcki] at hbs
    have hsb := hbs.scb
    have hbw := (hbs.mono (H0_sub E)).vw
    have hge : (ads (adrL b))[i] = adV (adrC (ck b i)) := by rw [ads_getE]; simp [adrL, cks]
    have h32 := adrC_len (ck b i)
    have hcb := ck_bytes hb i
    have hcl := ck_len b i
    simp -implicitDefEqProofs [q_law13_ChunkNames_L11, q_law13_ChunkNames_7, q_law13_ChunkNames_8, e0, e3, e4, e5, hr.len, hvl, hil, hil', a1, a2, r1, r2, hia, hiv, hge, adV, h32, hsb.size, hsb.shp, hsb.agg, hsb.good, hsb.comps, hsb.st]
    refine (w_ref13_Address hcb (by omega)).call (.cons hbw hsb.agg .nil) rfl ?_
    simp -implicitDefEqProofs [e0, e3, e4, e5, hil, hil', a1, a2, r1, r2, hia, hiv, hge, adV, h32, eqI_ints h32 h32, hsb.size, hsb.shp, hsb.agg, hsb.good, hsb.comps, hsb.st]
    refine (w_chunk_Address hcb (by omega)).call (.cons hbw hsb.agg .nil) rfl ?_
    simp -implicitDefEqProofs [e0, e3, e4, e5, hil, hil', a1, a2, r1, r2, hia, hiv, hge, adV, h32, eqI_ints h32 h32, q_law13_ChunkNames_10, wi]
    exact lp_next (i + 1) ⟨by omega, rfl, by simp [e0], by simp [e3, a1], by simp [e4, r1], by simp⟩ (by omega)
  · have hie : i = nck b := by omega
    subst hie
    have h32 := adrB_len b
    simp -implicitDefEqProofs [q_law13_ChunkNames_L11, q_law13_ChunkNames_7, q_law13_ChunkNames_11, e0, e3, e4, e5, hr.len, hvl]
    refine (w_chunk_Text hb (by omega)).call (.cons (.refl _) rfl .nil) rfl ?_
    simp -implicitDefEqProofs [e0, e3]
    refine (w_ref13_Text hb (by omega)).call (.cons (.refl _) rfl .nil) rfl ?_
    simp -implicitDefEqProofs [e0, e3, eqI_ints h32 h32, hs.agg]
    refine (w_chunk_Of (n := b.length) (L := adrL b) (by omega) (adrL_ok b) (by simp; omega)).call (.cons (.refl _) rfl (.cons hvE.vw hs.agg .nil)) rfl ?_
    simp -implicitDefEqProofs [e0, e3]
    refine (w_chunk_Text hb (by omega)).call (.cons (.refl _) rfl .nil) rfl ?_
    have hBe : adrT b.length (adrL b) = adrB b := rfl
    rw [hBe]
    simp -implicitDefEqProofs [eqI_ints h32 h32]
    refine w_law13_works.call .nil rfl ?_
    simp -implicitDefEqProofs [outOf]
end
end Go.Proofs.Ytfdckjliinpjiaa

/- The walk of ChunkBack. -/
namespace Go.Proofs.Ytfdckjliinpjiaa
open Go AVL
attribute [-simp] AV.isAgg aappI aapp alen shp good comps szOK aslc List.reduceReplicate
set_option linter.unusedVariables false
set_option linter.unusedSimpArgs false
set_option maxRecDepth 20000

section
variable {A B C D : Heap} {K Kp : AV → Heap → Prop} {P : Program}
theorem secs_in : ∀ {l : List AV}, (∀ x ∈ l, ATy.has (.iarr .u8 256) x) → ∃ L, l = secs L ∧ SecL L
  | [], _ => ⟨[], rfl, fun s hs => by cases hs⟩
  | v :: l, h => by
    obtain ⟨L, h1, h2⟩ := secs_in (l := l) fun x hx => h x (by simp [hx])
    have h3 := h v (by simp)
    unfold ATy.has at h3
    obtain ⟨s, rfl, hl, hw⟩ := h3
    obtain ⟨s, rfl, hb⟩ := bytes_in hw
    refine ⟨s :: L, by rw [h1]; rfl, fun t ht => ?_⟩
    rcases List.mem_cons.1 ht with rfl | ht
    · exact ⟨hb, by simpa using hl⟩
    · exact h2 t ht
/-- The sectors of a text. -/
def secB (b : List Nat) : List (List Nat) := (cks b).map whole
@[simp] theorem secB_len (b : List Nat) : (secB b).length = nck b := by simp [secB]
theorem secB_ok {b : List Nat} (h : Bytes b) : SecL (secB b) := fun s hs => by
  simp only [secB, List.mem_map] at hs
  obtain ⟨c, hc, rfl⟩ := hs
  exact ⟨whole_bytes (cks_bytes h c hc).1, whole_len c⟩
theorem secB_flat : ∀ (n : Nat) (b : List Nat), b.length ≤ n → ∃ z, (secB b).flatten = b ++ List.replicate z 0 := by
  intro n
  induction n using Nat.strongRecOn with
  | ind n ih =>
  intro b hb
  by_cases h0 : b.length = 0
  · have : b = [] := List.length_eq_zero_iff.1 h0
    subst this; exact ⟨0, rfl⟩
  have hmore : secB b = whole (b.take 256) :: secB (b.drop 256) := by unfold secB; rw [cks_more (by omega)]; rfl
  by_cases h1 : b.length ≤ 256
  · refine ⟨256 - b.length, ?_⟩
    rw [hmore, List.take_of_length_le h1, List.drop_eq_nil_of_le h1]
    simp [secB, cks_nil, whole, List.take_of_length_le h1]
  · obtain ⟨z, hz⟩ := ih (n - 1) (by omega) (b.drop 256) (by simp; omega)
    refine ⟨z, ?_⟩
    have hw : whole (b.take 256) = b.take 256 := by
      unfold whole
      rw [List.take_take, Nat.min_self, show 256 - (b.take 256).length = 0 by simp; omega]; simp
    rw [hmore, List.flatten_cons, hz, hw, ← List.append_assoc, List.take_append_drop]
theorem zeroN_rep (z : Nat) : zeroN (List.replicate z 0) = true := by
  simp only [zeroN, List.all_eq_true]
  intro x hx
  rw [List.eq_of_mem_replicate hx]; rfl
theorem join_secB {b : List Nat} (h : chkB b = 0) : joinE b.length (secB b) = 0 ∧ joinB b.length (secB b) = b := by
  have hb : 1 ≤ b.length ∧ b.length ≤ 2048 := by
    unfold chkB at h
    split at h
    · omega
    · split at h <;> omega
  obtain ⟨z, hz⟩ := secB_flat b.length b (Nat.le_refl _)
  have he : joinE b.length (secB b) = 0 := by
    unfold joinE
    rw [if_neg (by omega), if_neg (by rw [secB_len]; simp only [nck]; omega), Int.toNat_natCast, hz, List.drop_left, zeroN_rep, if_pos rfl]
  exact ⟨he, by unfold joinB; rw [if_pos he, Int.toNat_natCast, hz, List.take_left]⟩
theorem secB_take {b : List Nat} {i : Nat} (h : i < nck b) : (secB b).take (i + 1) = (secB b).take i ++ [whole (ck b i)] := by
  rw [List.take_succ_eq_append_getElem (by simpa using h)]; simp [secB, cks]
theorem w_ChunkBack {b : List Nat} {n : Int} {L : List (List Nat)} (hb : Bytes b) (hbl : b.length < 2 ^ 63) (h1 : -9223372036854775808 ≤ n) (h2 : n < 9223372036854775808) (hL : SecL L) (hLl : L.length < 2 ^ 63) : Gives Try.prog F_law13_ChunkBack [.isl .u8 (ints b), .int .i64 n, .dsl 256 (secs L)] (.bool true) := by
  refine v_law13_ChunkBack (by simp) ?_
  by_cases h30 : 3000 < b.length
  · have h30' : (3000 : Int) < b.length := by omega
    simp -implicitDefEqProofs [a_law13_ChunkBack, q_law13_ChunkBack_0, q_law13_ChunkBack_1, q_law13_ChunkBack_2, h30, h30']
    refine w_law13_works.call .nil rfl ?_
    simp -implicitDefEqProofs [outOf]
  have h30' : ¬ (3000 : Int) < b.length := by omega
  by_cases h10 : 10 < L.length
  · have h10' : (10 : Int) < L.length := by omega
    simp -implicitDefEqProofs [a_law13_ChunkBack, q_law13_ChunkBack_0, q_law13_ChunkBack_1, q_law13_ChunkBack_2, h30, h30', h10, h10']
    refine w_law13_works.call .nil rfl ?_
    simp -implicitDefEqProofs [outOf]
  have h10' : ¬ (10 : Int) < L.length := by omega
  have hnk : nck b ≤ 12 := by unfold nck; omega
  simp -implicitDefEqProofs [a_law13_ChunkBack, q_law13_ChunkBack_0, q_law13_ChunkBack_1, q_law13_ChunkBack_3, q_law13_ChunkBack_4, h30, h30', h10, h10']
  refine w_ref13_Split b.length (Nat.le_refl _) (by omega) (BsV.isl b) (H0_sub _) fun r vs E hr hall => ?_
  have hsr := hr.scl
  have hvl := hall.len
  rw [cks_len] at hvl
  have hrr := hr.rowAt
  simp -implicitDefEqProofs [hsr.agg, q_law13_ChunkBack_5]
  refine X_lp (fun (i : Nat) env B => i ≤ nck b ∧ SlR T_256_uint8 256 (env 7) (secs ((secB b).take i)) H0 B ∧ RowAt T_L_uint8 1 r vs B ∧ env 0 = .isl .u8 (ints b) ∧ env 1 = .int .i64 n ∧ env 2 = .dsl 256 (secs L) ∧ env 8 = r ∧ env 9 = .int .i64 i) (fun i => nck b - i) 0
    ⟨by omega, by simpa [secs] using SlR.nil (H0_sub E), hrr, by simp, by simp, by simp, by simp, by simp⟩ ?_
  clear hrr
  rintro i env B ⟨hi, hv, hrr, e0, e1, e2, e8, e9⟩
  obtain ⟨v, e7⟩ : ∃ v, env 7 = v := ⟨_, rfl⟩
  rw [e7] at hv
  have hs := hv.scl
  by_cases hil : i < nck b
  · have hil' : (i : Int) < nck b := by omega
    have wi : IntKind.i64.wrap ((i : Int) + 1) = (i : Int) + 1 := wrap_i64 (by omega)
    obtain ⟨gr, r1, r2⟩ := hrr.pos (by omega)
    rw [hvl] at r1
    have hiv : i < vs.length := by omega
    obtain ⟨_, hbs⟩ := hall.get i (by simpa using hil)
    have hcki : (cks b)[i]'(by simpa using hil) = ck b i := by simp [cks]
    rw [hcki] at hbs
    have hsb := hbs.scb
    have hcb := ck_bytes hb i
    have hwl := whole_len (ck b i)
    simp -implicitDefEqProofs [q_law13_ChunkBack_L9, q_law13_ChunkBack_6, q_law13_ChunkBack_7, e0, e7, e8, e9, hrr.len, hvl, hil, hil', r1, r2, hiv, hsb.size, hsb.shp, hsb.agg, hsb.good, hsb.comps, hsb.st]
    refine (w_chunk_Sector hcb).call (.cons (hbs.mono (H0_sub B)).vw hsb.agg .nil) rfl ?_
    simp -implicitDefEqProofs [hwl]
    intro g9 h9
    obtain ⟨Q', q1, q2, q3, q4, q5⟩ := hv.top
    refine q3.appS (ys := [secV (whole (ck b i))]) (sub_none h9) (src_row set_eq' rfl) rfl (by simp; omega) fun g' n' C2 hn' hv2 => ?_
    simp -implicitDefEqProofs [q_law13_ChunkBack_8, e9, wi]
    have hap : secs ((secB b).take i) ++ [secV (whole (ck b i))] = secs ((secB b).take (i + 1)) := by rw [secB_take hil]; simp [secs]
    rw [hap] at hv2
    refine lp_next (i + 1) ⟨by omega, by simpa using hv2.base q1, .inr ⟨gr, by rw [hvl], hv2.sub _ _ (q4 _ _ r2 (hv.ne r2 (by intro l; simp)))⟩, by simp [e0], by simp [e1], by simp [e2], by simp [e8, r1], by simp⟩ (by omega)
  · have hie : i = nck b := by omega
    subst hie
    rw [List.take_of_length_le (by simp)] at hv
    have nF : ∀ c : Int, ∀ v : AV, v.noF = true → (AV.tuple [v, .int .i64 c]).noF = true := fun c v h => by simp [AV.noF, AV.noFs, h]
    simp -implicitDefEqProofs [q_law13_ChunkBack_L9, q_law13_ChunkBack_6, q_law13_ChunkBack_9, e0, e7, e8, e9, hrr.len, hvl, hs.agg]
    refine (w_chunk_Join (n := b.length) (secB_ok hb) (by simp; omega) (by omega) (by omega)).call (.cons (.refl _) rfl (.cons hv.vw hs.agg .nil)) (nF _) fun t E1 ht => ?_
    have hts := ht.scl
    simp -implicitDefEqProofs [hts.agg, q_law13_ChunkBack_10, e0]
    refine (w_ref13_Check (by omega)).call (.cons (.refl _) rfl .nil) rfl ?_
    have fin : ∀ (env : AEnv) (B : Heap), env 1 = .int .i64 n → env 2 = .dsl 256 (secs L) → XO Try.prog (fin [ARes.tmp 6] (.bool true)) q_law13_ChunkBack_12 (.thn (.seq (.region q_law13_ChunkBack_13) (.seq (.region q_law13_ChunkBack_14) .ret)) .done) env B := by
      intro env B e1 e2
      simp -implicitDefEqProofs [q_law13_ChunkBack_12, e1, e2]
      refine (w_chunk_Join hL (by omega) h1 h2).call (.cons (.refl _) rfl (.cons (.refl _) rfl .nil)) (nF _) fun u E2 hu => ?_
      have hus := hu.scl
      simp -implicitDefEqProofs [hus.agg, q_law13_ChunkBack_13, e1, e2]
      refine w_ref13_Join hL (by omega) fun w E3 hs3 hw => ?_
      have hws := hw.scb
      have hu3 := hu.mono hs3
      have hjb : Bytes (joinB n L) := by
        unfold joinB; split
        · intro x hx; exact hL.bytes x (List.mem_of_mem_take hx)
        · intro x hx; cases hx
      simp -implicitDefEqProofs [hws.agg, hus.agg, q_law13_ChunkBack_14]
      refine (w_ref01_Same _ _ hjb hjb).call (.cons hu3.vw hus.agg (.cons hw.vw hws.agg .nil)) rfl ?_
      simp -implicitDefEqProofs
      refine w_law13_works.call .nil rfl ?_
      simp -implicitDefEqProofs [outOf]
    by_cases hc : chkB b = 0
    · obtain ⟨j1, j2⟩ := join_secB hc
      rw [j2] at ht
      simp -implicitDefEqProofs [hc, j1, hts.agg, e0]
      refine (w_ref01_Same b b hb hb).call (.cons ht.vw hts.agg (.cons (.refl _) rfl .nil)) rfl ?_
      simp -implicitDefEqProofs
      exact fin _ _ (by simp [e1]) (by simp [e2])
    · simp -implicitDefEqProofs [hc]
      exact fin _ _ (by simp [e1]) (by simp [e2])
end
end Go.Proofs.Ytfdckjliinpjiaa
