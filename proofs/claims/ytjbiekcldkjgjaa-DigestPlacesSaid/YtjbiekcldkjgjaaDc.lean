/- The walk of the reference's words. -/
import Derived.Test.YtjbiekcldkjgjaaDb
namespace Go.Proofs.Ytjbiekcldkjgjaa
open Go AVL
set_option linter.unusedVariables false
set_option linter.unusedSimpArgs false
set_option maxRecDepth 4000

theorem add4_mul {a b c d : Nat} (ha : a < 256) (hb : b < 256) (hc : c < 256) (hd : d < 256) :
    IntKind.u32.wrap (IntKind.u32.wrap (IntKind.u32.wrap (IntKind.u32.wrap ((a : Int) * 16777216) + IntKind.u32.wrap ((b : Int) * 65536)) + IntKind.u32.wrap ((c : Int) * 256)) + (d : Int)) = ((a * 16777216 + b * 65536 + c * 256 + d : Nat) : Int) := by
  rw [wrap_u32 (n := (a : Int) * 16777216) (by omega), wrap_u32 (n := (b : Int) * 65536) (by omega), wrap_u32 (n := (c : Int) * 256) (by omega), wrap_u32 (n := (a : Int) * 16777216 + (b : Int) * 65536) (by omega),
    wrap_u32 (n := (a : Int) * 16777216 + (b : Int) * 65536 + (c : Int) * 256) (by omega), wrap_u32 (by omega)]
  omega
set_option maxHeartbeats 1000000 in
theorem words_L12 {b : List Nat} (hb : byts b) {g4 g5 : Nat} (n1 : ¬g5 = g4) (n2 : ¬g4 = g5) {env : AEnv} (e4 : env 4 = .ptr g4 0) (e5 : env 5 = .ptr g5 0) (e7 : env 7 = .int .i64 16) :
    X Try.prog (fin [ARes.cell 4 (.ia .u32 64) 64] (.iarr .u32 64 (ints (wsN b 48)))) (.loop q_ref03_words_L12) (Kt.blk 2 (Kt.thn ((ACode.region q_ref03_words_12).seq ACode.ret) Kt.done)) env
      ((H0.set g4 (.var 141 [.iarr .u32 64 (List.replicate 64 0)])).set g5 (.var 141 [.iarr .u32 64 (ints (wsN b 0 ++ List.replicate (48 - 0) 0))])) := by
  refine X_lp (fun (j : Nat) env B => j ≤ 48 ∧ env 4 = .ptr g4 0 ∧ env 5 = .ptr g5 0 ∧ env 7 = .int .i64 (16 + j : Nat) ∧ B = (H0.set g4 (.var 141 [.iarr .u32 64 (List.replicate 64 0)])).set g5 (.var 141 [.iarr .u32 64 (ints (wsN b j ++ List.replicate (48 - j) 0))])) (fun j => 48 - j) 0
    ⟨by omega, by simp [e4], by simp [e5], by simp [e7], rfl⟩ ?_
  rintro j env B ⟨hj, e4, e5, e7, rfl⟩
  simp -implicitDefEqProofs [q_ref03_words_L12, q_ref03_words_7, e4, e5, e7, -List.reduceReplicate]
  refine ⟨fun hjl => ?_, fun hjl => ?_⟩
  · have hwl := wsN_length b j
    have q16 : IntKind.i64.wrap (16 + (j : Int) - 16) = ((j : Nat) : Int) := by rw [wrap_i64 (by omega)]; omega
    have q15 : IntKind.i64.wrap (16 + (j : Int) - 15) = ((j + 1 : Nat) : Int) := by rw [wrap_i64 (by omega)]; omega
    have q7 : IntKind.i64.wrap (16 + (j : Int) - 7) = ((j + 9 : Nat) : Int) := by rw [wrap_i64 (by omega)]; omega
    have q2 : IntKind.i64.wrap (16 + (j : Int) - 2) = ((j + 14 : Nat) : Int) := by rw [wrap_i64 (by omega)]; omega
    have q1 : IntKind.i64.wrap (16 + (j : Int) + 1) = ((16 + (j + 1) : Nat) : Int) := by rw [wrap_i64 (by omega)]; omega
    obtain ⟨L, hL⟩ : ∃ L, wsN b j ++ List.replicate (48 - j) 0 = L := ⟨_, rfl⟩
    have hLl : L.length = 64 := by rw [← hL]; simp; omega
    rw [hL]
    have rd : ∀ k, k < 16 + j → L[k]?.getD 0 = (wsN b j).getD k 0 := fun k hk => by
      rw [← hL, List.getElem?_append_left (by omega), List.getD_eq_getElem?_getD]
    have hw := wsN_words hb j
    have hN : nextW (wsN b j) j = ((wsN b j).getD j 0 + sg0 ((wsN b j).getD (j + 1) 0) + (wsN b j).getD (j + 9) 0 + sg1 ((wsN b j).getD (j + 14) 0)) % W32 := rfl
    have a0 := words_getD hw j; have a1 := words_getD hw (j + 1); have a9 := words_getD hw (j + 9); have a14 := words_getD hw (j + 14)
    have r0 := rd j (by omega); have r1 := rd (j + 1) (by omega); have r9 := rd (j + 9) (by omega); have r14 := rd (j + 14) (by omega)
    obtain ⟨x0, h0⟩ : ∃ x, (wsN b j).getD j 0 = x := ⟨_, rfl⟩
    obtain ⟨x1, h1⟩ : ∃ x, (wsN b j).getD (j + 1) 0 = x := ⟨_, rfl⟩
    obtain ⟨x9, h9⟩ : ∃ x, (wsN b j).getD (j + 9) 0 = x := ⟨_, rfl⟩
    obtain ⟨x14, h14⟩ : ∃ x, (wsN b j).getD (j + 14) 0 = x := ⟨_, rfl⟩
    rw [h0, h1, h9, h14] at hN
    rw [h0] at a0 r0; rw [h1] at a1 r1; rw [h9] at a9 r9; rw [h14] at a14 r14
    have t1 : ((j : Int) + 1).toNat = j + 1 := by omega
    have t9 : ((j : Int) + 9).toNat = j + 9 := by omega
    have t14 : ((j : Int) + 14).toNat = j + 14 := by omega
    have b1 : (j : Int) + 1 < 64 := by omega
    have b9 : (j : Int) + 9 < 64 := by omega
    have b14 : (j : Int) + 14 < 64 := by omega
    have b0 : (j : Int) < 64 := by omega
    have p1 : 0 ≤ (j : Int) + 1 := by omega
    have p9 : 0 ≤ (j : Int) + 9 := by omega
    have p14 : 0 ≤ (j : Int) + 14 := by omega
    simp -implicitDefEqProofs [q_ref03_words_8, e4, e5, e7, q15, hLl, t1, r1, b1, p1, -List.reduceReplicate]
    refine (w_right a1 (m := 7) (by omega) rfl).call (.cons (.refl _) rfl (.cons (.refl _) rfl .nil)) rfl ?_
    simp -implicitDefEqProofs [Sub_refl, -List.reduceReplicate]
    refine (w_right a1 (m := 18) (by omega) rfl).call (.cons (.refl _) rfl (.cons (.refl _) rfl .nil)) rfl ?_
    simp -implicitDefEqProofs [Sub_refl, sg0_of a1, q_ref03_words_9, e5, e7, q2, hLl, t14, r14, b14, p14, -List.reduceReplicate]
    refine (w_right a14 (m := 17) (by omega) rfl).call (.cons (.refl _) rfl (.cons (.refl _) rfl .nil)) rfl ?_
    simp -implicitDefEqProofs [Sub_refl, -List.reduceReplicate]
    refine (w_right a14 (m := 19) (by omega) rfl).call (.cons (.refl _) rfl (.cons (.refl _) rfl .nil)) rfl ?_
    have hq := add4_of x0 (sg0 x1) x9 (sg1 x14)
    obtain ⟨y, hy⟩ : ∃ y, nextW (wsN b j) j = y := ⟨_, rfl⟩
    rw [← hN, hy] at hq
    have t16 : (16 + (j : Int)).toNat = 16 + j := by omega
    have hset : L.set (16 + j) y = wsN b (j + 1) ++ List.replicate (47 - j) 0 := by
      have := fill_app (x := nextW (wsN b j) j) hwl (show 16 + j < 64 by omega)
      rw [show 64 - (16 + j) = 48 - j by omega, hL, show 64 - (16 + j + 1) = 47 - j by omega, hy] at this
      rw [this, ← hy]; rfl
    simp -implicitDefEqProofs [Sub_refl, sg1_of a14, q_ref03_words_10, q_ref03_words_11, e5, e7, hLl, hq, q1, q16, q7, t9, r9, r0, b0, b9, p9, t16, hset, -List.reduceReplicate]
    refine ⟨by omega, by omega, ?_⟩
    refine lp_next (j + 1) ⟨by omega, by simp [e4], by simp [e5], ?_, by rw [show 48 - (j + 1) = 47 - j by omega]⟩ (by omega)
    simp
    try omega
  · have hje : j = 48 := by omega
    subst hje
    simp -implicitDefEqProofs [q_ref03_words_12, e4, e5, n1, n2, outOf, -List.reduceReplicate]
set_option maxHeartbeats 1000000 in
/-- The words of the block that begins in a place. -/
theorem w_ref03_words {t b : List Nat} {at' : Nat} (ht : byts t) (hl : at' + 64 ≤ t.length) (hb : b = (t.drop at').take 64) (hm : t.length < 2 ^ 40) : Gives Try.prog F_ref03_words [.isl .u8 (ints t), .int .i64 at'] (.iarr .u32 64 (ints (wsN b 48))) := by
  have hbb : byts b := fun x hx => ht x (List.mem_of_mem_drop (List.mem_of_mem_take (hb ▸ hx)))
  have hbl : b.length = 64 := by rw [hb]; simp; omega
  have get : ∀ k (h : at' + k < t.length) (h' : k < b.length), b[k] = t[at' + k] := fun k h h' => by subst hb; simp
  refine v_ref03_words (by simp) ?_
  simp -implicitDefEqProofs [a_ref03_words, q_ref03_words_0, q_ref03_words_1, q_ref03_words_2, -List.reduceReplicate]
  intro g4 g5 n1 n2
  have h0 : List.replicate 64 (0 : Int) = ints ((first16 b).take 0 ++ List.replicate (64 - 0) 0) := by rw [List.take_zero, List.nil_append]; exact (List.map_replicate (f := fun (n : Nat) => (n : Int))).symm
  have hf : (first16 b).length = 16 := by simp [first16]
  refine X_lp (fun (i : Nat) env B => i ≤ 16 ∧ env 0 = .isl .u8 (ints t) ∧ env 1 = .int .i64 at' ∧ env 4 = .ptr g4 0 ∧ env 5 = .ptr g5 0 ∧ env 6 = .int .i64 i ∧ B = (H0.set g4 (.var 141 [.iarr .u32 64 (List.replicate 64 0)])).set g5 (.var 141 [.iarr .u32 64 (ints ((first16 b).take i ++ List.replicate (64 - i) 0))])) (fun i => 16 - i) 0
    ⟨by omega, by simp, by simp, by simp, by simp, by simp, by rw [← h0]⟩ ?_
  rintro i env B ⟨hi, e0, e1, e4, e5, e6, rfl⟩
  simp -implicitDefEqProofs [q_ref03_words_L6, q_ref03_words_3, e0, e1, e4, e5, e6, -List.reduceReplicate]
  refine ⟨fun hil => ?_, fun hil => ?_⟩
  · have k0 : 4 * i < b.length := by omega
    have k1 : 4 * i + 1 < b.length := by omega
    have k2 : 4 * i + 2 < b.length := by omega
    have k3 : 4 * i + 3 < b.length := by omega
    have i0 : at' + 4 * i < t.length := by omega
    have i1 : at' + 4 * i + 1 < t.length := by omega
    have i2 : at' + 4 * i + 2 < t.length := by omega
    have i3 : at' + 4 * i + 3 < t.length := by omega
    have w0 : IntKind.i64.wrap (4 * (i : Int)) = 4 * (i : Int) := wrap_i64 (by omega)
    have wa : IntKind.i64.wrap ((at' : Int) + 4 * (i : Int)) = (at' : Int) + 4 * (i : Int) := wrap_i64 (by omega)
    have w1 : IntKind.i64.wrap ((at' : Int) + 4 * (i : Int) + 1) = (at' : Int) + 4 * (i : Int) + 1 := wrap_i64 (by omega)
    have w2 : IntKind.i64.wrap ((at' : Int) + 4 * (i : Int) + 2) = (at' : Int) + 4 * (i : Int) + 2 := wrap_i64 (by omega)
    have w3 : IntKind.i64.wrap ((at' : Int) + 4 * (i : Int) + 3) = (at' : Int) + 4 * (i : Int) + 3 := wrap_i64 (by omega)
    have t0 : ((at' : Int) + 4 * (i : Int)).toNat = at' + 4 * i := by omega
    have t1 : ((at' : Int) + 4 * (i : Int) + 1).toNat = at' + 4 * i + 1 := by omega
    have t2 : ((at' : Int) + 4 * (i : Int) + 2).toNat = at' + 4 * i + 2 := by omega
    have t3 : ((at' : Int) + 4 * (i : Int) + 3).toNat = at' + 4 * i + 3 := by omega
    have c0 := ht _ (List.getElem_mem i0)
    have c1 := ht _ (List.getElem_mem i1)
    have c2 := ht _ (List.getElem_mem i2)
    have c3 := ht _ (List.getElem_mem i3)
    have i16 : i < (first16 b).length := by omega
    have hw := add4_mul c0 c1 c2 c3
    have z0 := get (4 * i) i0 k0
    have z1 := get (4 * i + 1) i1 k1
    have z2 := get (4 * i + 2) i2 k2
    have z3 := get (4 * i + 3) i3 k3
    have hw' : t[at' + 4 * i] * 16777216 + t[at' + 4 * i + 1] * 65536 + t[at' + 4 * i + 2] * 256 + t[at' + 4 * i + 3] = (first16 b)[i] := by
      rw [first16_get b (by omega) k3 i16, z0, z1, z2, z3]; rfl
    rw [hw'] at hw
    have y0 : IntKind.u32.wrap ((t[at' + 4 * i] : Nat) : Int) = ((t[at' + 4 * i] : Nat) : Int) := wrap_u32 (by omega)
    have y1 : IntKind.u32.wrap ((t[at' + 4 * i + 1] : Nat) : Int) = ((t[at' + 4 * i + 1] : Nat) : Int) := wrap_u32 (by omega)
    have y2 : IntKind.u32.wrap ((t[at' + 4 * i + 2] : Nat) : Int) = ((t[at' + 4 * i + 2] : Nat) : Int) := wrap_u32 (by omega)
    have y3 : IntKind.u32.wrap ((t[at' + 4 * i + 3] : Nat) : Int) = ((t[at' + 4 * i + 3] : Nat) : Int) := wrap_u32 (by omega)
    have hfs := fill_setN i16 (show (first16 b).length ≤ 64 by omega)
    have wi : IntKind.i64.wrap ((i : Int) + 1) = (i : Int) + 1 := wrap_i64 (by omega)
    simp -implicitDefEqProofs [q_ref03_words_4, q_ref03_words_5, e0, e1, e4, e5, e6, w0, wa, w1, w2, w3, t0, t1, t2, t3, i0, i1, i2, i3, hil, y0, y1, y2, y3, hw, hfs, wi, -List.reduceReplicate]
    refine ⟨by omega, by omega, by omega, by omega, by omega, by omega, by omega, by omega, by omega, by rw [hf]; omega, ?_⟩
    exact lp_next (i + 1) ⟨by omega, by simp [e0], by simp [e1], by simp [e4], by simp [e5], by simp, by rw [show 64 - (i + 1) = 63 - i by omega]⟩ (by omega)
  · have hie : i = 16 := by omega
    subst hie
    have hws : (first16 b).take 16 ++ List.replicate (64 - 16) 0 = wsN b 0 ++ List.replicate (48 - 0) 0 := by rw [List.take_of_length_le (by omega)]; rfl
    rw [hws]
    simp -implicitDefEqProofs [q_ref03_words_6, -List.reduceReplicate]
    refine words_L12 hbb n1 n2 ?_ ?_ ?_
    · simp [e4]
    · simp [e5]
    · simp
end Go.Proofs.Ytjbiekcldkjgjaa
