/- The walk of the reference's division. -/
import Derived.Test.YtgbplcelcjffdaaCj
namespace Go.Proofs.Ytgbplcelcjffdaa
open Go AVL
set_option linter.unusedVariables false
set_option linter.unusedSimpArgs false

theorem xor_one (x : Nat) (h : x < 2) : 1 - x = 1 ^^^ x := by
  rcases (by omega : x = 0 ∨ x = 1) with rfl | rfl <;> rfl
theorem xor_lt2 {a b : Nat} (ha : a < 2) (hb : b < 2) : a ^^^ b < 2 := Nat.xor_lt_two_pow (n := 1) ha hb
theorem ones_bt (p : Nat) : bt 4294967295 p = if p < 32 then 1 else 0 := by
  unfold bt
  have : (4294967295 : Nat) = 2 ^ 32 - 1 := rfl
  rw [this, Nat.testBit_two_pow_sub_one]
  by_cases h : p < 32 <;> simp [h]
theorem poly_lt (k : Nat) : poly[k]?.getD 0 < 2 := by
  by_cases h : k < 33
  · revert k; decide
  · have : poly.length ≤ k := by simp [poly]; omega
    simp [List.getElem?_eq_none this]

theorem set_swap {A : Heap} {g h : Nat} {c d : Cont} (e : ¬ g = h) : (A.set h d).set g c = (A.set g c).set h d := by
  funext x
  simp only [set_app]
  by_cases h1 : x = g
  · subst h1; simp [e]
  · simp [h1]

theorem w15 (l : List Nat) (hl : Bytes l) (hn : l.length < 2 ^ 20) : Gives Try.prog 15 [.isl .u8 (ints l)] (.int .u32 (moreN 0 l)) := by
  refine X_intro g15 c15 (by rw [Try.ntmps15]; simp) fun R hR => ?_
  obtain ⟨M, hM⟩ : ∃ M, M = 8 * l.length + 32 := ⟨_, rfl⟩
  have main : ∀ (g : Nat) (env : AEnv) (A : Heap), (H0.set g (.irow 5 .u8 (ints (tab M (rawb l))))).Sub A → env 3 = .own g 0 M → env 4 = .int .i64 0 →
      X Try.prog R (.loop q15_L6) (.blk 0 (.thn (.seq (.region q15_6) (.seq (.seq (.region q15_7) (.block 2 (.loop q15_L15))) (.seq (.region q15_15) (.seq (.region q15_16) (.seq (.seq (.region q15_17) (.block 6 (.loop q15_L21))) (.seq (.region q15_21) .ret)))))) .done)) env A := by
    intro g env A hA e3 e4
    refine X_loopS (fun (i : Nat) env B => i ≤ 32 ∧ env 3 = .own g 0 M ∧ env 4 = .int .i64 i ∧ B = H0.set g (.irow 5 .u8 (ints (tab M fun p => if p < i then 1 - rawb l p else rawb l p)))) (fun i => 32 - i) 0 _ hA
      ⟨by simp, e3, by simpa using e4, by simp⟩ ?_
    rintro R' i env B ⟨h1, h2, h3, rfl⟩ hN hE
    simp -implicitDefEqProofs [q15_L6, q15_3, h3]
    refine ⟨fun hi => ?_, fun hi => ?_⟩
    · have hiM : i < M := by omega
      have r2 := rawb_lt l i
      have s1 : IntKind.u8.wrap (1 - ((rawb l i : Nat) : Int)) = ((1 - rawb l i : Nat) : Int) := by rw [wrap_u8 (by omega)]; omega
      have s4 : IntKind.i64.wrap ((i : Int) + 1) = ((i + 1 : Nat) : Int) := by rw [wrap_i64 (by omega)]; simp
      simp -implicitDefEqProofs [q15_4, h2, h3, hiM, tab_get, s1]
      simp -implicitDefEqProofs [q15_5, h3, s4, -Int.natCast_add]
      refine hN (i + 1) _ _ _ (Sub_refl _) ⟨by omega, by simp [h2], by simp, ?_⟩ (by omega)
      rw [tab_set]
      congr 3
      refine tab_ext fun p _ => ?_
      by_cases e : p = i
      · subst e; simp
      · have : (p < i + 1) = (p < i) := by apply propext; omega
        simp [e, this]
    · refine hE _ _ _ (by simp) ?_
      have : i = 32 := by omega
      subst this
      simp -implicitDefEqProofs +contextual [q15_6, h2]
      intro g5 hg5 hg5'
      simp -implicitDefEqProofs [q15_7]
      refine X_loopS (fun (s : Nat × (Nat → Nat)) env B => s.1 + 32 ≤ M ∧ env 3 = .own g 0 M ∧ env 5 = .own g5 0 33 ∧ env 6 = .int .i64 s.1 ∧ (∀ p, s.2 p < 2) ∧ (∀ p, s.1 ≤ p → p < M → s.2 p = bt (rb l s.1) (p - s.1) ^^^ rawb l p) ∧
          B = (H0.set g (.irow 5 .u8 (ints (tab M s.2)))).set g5 (.irow 5 .u8 (ints poly))) (fun s => M - s.1) (0, fun p => if p < 32 then 1 - rawb l p else rawb l p) _ (Sub_refl _)
        ⟨by simp; omega, by simp [h2], by simp, by simp, ?_, ?_, rfl⟩ ?_
      · intro p
        have := rawb_lt l p
        simp only
        split <;> omega
      · intro p _ hp
        have r2 := rawb_lt l p
        simp only [Nat.sub_zero, rb, ones_bt]
        split
        · exact xor_one _ r2
        · rw [Nat.zero_xor]
      · rintro R2 ⟨i, G⟩ env B ⟨d1, d2, d3, d4, d5, d6, rfl⟩ dN dE
        simp only at d1 d4 d5 d6
        have t1 : IntKind.i64.wrap ((i : Int) + 32) = ((i + 32 : Nat) : Int) := by rw [wrap_i64 (by omega)]; simp
        simp -implicitDefEqProofs [q15_L15, q15_8, d2, d4, t1, -Int.natCast_add]
        refine ⟨fun hi => ?_, fun hi => ?_⟩
        · have hiM : i < M := by omega
          have hbit := d6 i (Nat.le_refl i) hiM
          rw [Nat.sub_self] at hbit
          have hdv := div_bit l i
          rw [← hbit] at hdv
          have s4 : IntKind.i64.wrap ((i : Int) + 1) = ((i + 1 : Nat) : Int) := by rw [wrap_i64 (by omega)]; simp
          simp -implicitDefEqProofs [q15_9, d2, d4, hg5', hiM, tab_get, -Int.natCast_add]
          refine ⟨fun hb => ?_, fun hb => ?_⟩
          · have hb' : G i = 1 := by omega
            simp -implicitDefEqProofs [q15_10]
            refine X_loopS (fun (k : Nat) env B => k ≤ 33 ∧ env 3 = .own g 0 M ∧ env 5 = .own g5 0 33 ∧ env 6 = .int .i64 i ∧ env 7 = .int .i64 k ∧
                B = (H0.set g (.irow 5 .u8 (ints (tab M fun p => if i ≤ p ∧ p < i + k then G p ^^^ poly[p - i]?.getD 0 else G p)))).set g5 (.irow 5 .u8 (ints poly))) (fun k => 33 - k) 0 _ (Sub_refl _)
              ⟨by simp, by simp [d2], by simp [d3], by simp [d4], by simp, ?_⟩ ?_
            · congr 4
              refine tab_ext fun p _ => ?_
              rw [if_neg (by omega)]
            · rintro R3 k env B ⟨f1, f2, f3, f4, f5, rfl⟩ fN fE
              simp -implicitDefEqProofs [q15_L14, q15_11, f5]
              refine ⟨fun hk => ?_, fun hk => ?_⟩
              · have hk33 : k < 33 := by omega
                have hx : i + k < M := by omega
                have u1 : IntKind.i64.wrap ((i : Int) + (k : Int)) = ((i + k : Nat) : Int) := by rw [wrap_i64 (by omega)]; simp
                have u2 : IntKind.i64.wrap ((k : Int) + 1) = ((k + 1 : Nat) : Int) := by rw [wrap_i64 (by omega)]; simp
                have hpl : k < poly.length := hk33
                have hpg : poly[k]?.getD 0 = poly[k] := by rw [List.getElem?_eq_getElem hpl]; rfl
                have hp2 := poly_lt k
                rw [hpg] at hp2
                have hG2 := d5 (i + k)
                have u3 : bXor .u8 ((G (i + k) : Nat) : Int) ((poly[k] : Nat) : Int) = ((G (i + k) ^^^ poly[k] : Nat) : Int) := bXor_nat rfl (by simp [IntKind.bits]; omega) (by simp [IntKind.bits]; omega)
                simp -implicitDefEqProofs [q15_12, q15_13, f2, f3, f4, f5, u1, u2, u3, hg5', hx, hk33, hpl, tab_get, -Int.natCast_add]
                refine ⟨hk, fN (k + 1) _ _ _ ?_ ⟨by omega, by simp [f2], by simp [f3], by simp [f4], by simp, rfl⟩ (by omega)⟩
                rw [tab_set, set_swap hg5']
                rw [show (tab M fun q => if q = i + k then G (i + k) ^^^ poly[k] else if i ≤ q ∧ q < i + k then G q ^^^ poly[q - i]?.getD 0 else G q) = tab M (fun p => if i ≤ p ∧ p < i + (k + 1) then G p ^^^ poly[p - i]?.getD 0 else G p) from tab_ext fun p _ => by
                  by_cases e : p = i + k
                  · subst e
                    rw [if_pos rfl, if_pos (by omega), Nat.add_sub_cancel_left, hpg]
                  · rw [if_neg e]
                    by_cases e2 : i ≤ p ∧ p < i + k
                    · rw [if_pos e2, if_pos (by omega)]
                    · rw [if_neg e2, if_neg (by omega)]]
                rw [set_set]
                exact Sub_refl _
              · refine fE _ _ _ (by simp) ?_
                have : k = 33 := by omega
                subst this
                simp -implicitDefEqProofs [q15_14, f4, s4, -Int.natCast_add]
                refine dN (i + 1, fun p => if i ≤ p ∧ p < i + 33 then G p ^^^ poly[p - i]?.getD 0 else G p) _ _ _ (Sub_refl _) ⟨by simp only; omega, by simp [f2], by simp [f3], by simp, ?_, ?_, rfl⟩ (by simp only; omega)
                · intro p
                  simp only
                  split
                  · exact xor_lt2 (d5 p) (poly_lt _)
                  · exact d5 p
                · intro p hp hpM
                  simp only at hp ⊢
                  obtain ⟨q, rfl⟩ : ∃ q, p = i + (q + 1) := ⟨p - i - 1, by omega⟩
                  have e1 : i + (q + 1) - (i + 1) = q := by omega
                  have e2 : i + (q + 1) - i = q + 1 := by omega
                  have hG := d6 (i + (q + 1)) (by omega) hpM
                  rw [e2] at hG
                  have hd := hdv q
                  rw [if_pos hb'] at hd
                  rw [e1, e2, hd, hG]
                  by_cases hq : q < 32
                  · rw [if_pos (by omega), poly_bt q hq, Nat.xor_assoc, Nat.xor_assoc, Nat.xor_comm (rawb l (i + (q + 1)))]
                  · rw [if_neg (by omega), bt_big (r := 3988292384) (by decide) (by omega), Nat.xor_zero]
          · have hb' : ¬ G i = 1 := by omega
            simp -implicitDefEqProofs [q15_14, d4, s4, -Int.natCast_add]
            refine dN (i + 1, G) _ _ _ (Sub_refl _) ⟨by simp only; omega, by simp [d2], by simp [d3], by simp, d5, ?_, rfl⟩ (by simp only; omega)
            intro p hp hpM
            simp only at hp ⊢
            obtain ⟨q, rfl⟩ : ∃ q, p = i + (q + 1) := ⟨p - i - 1, by omega⟩
            have e1 : i + (q + 1) - (i + 1) = q := by omega
            have e2 : i + (q + 1) - i = q + 1 := by omega
            have hG := d6 (i + (q + 1)) (by omega) hpM
            rw [e2] at hG
            have hd := hdv q
            rw [if_neg hb', Nat.xor_zero] at hd
            rw [e1, hd, hG]
        · refine dE _ _ _ (by simp) ?_
          have hiN : i = 8 * l.length := by omega
          have hrN : rb l i = reg 4294967295 l := by rw [hiN, rb_reg l hl _ (Nat.le_refl _), List.take_length]
          have w1 : IntKind.i64.wrap ((M : Int) - 32) = ((i : Nat) : Int) := by rw [wrap_i64 (by omega)]; omega
          simp -implicitDefEqProofs [q15_15, q15_16, q15_17, d2, w1]
          refine X_loopS (fun (k : Nat) env B => k ≤ 32 ∧ env 3 = .own g 0 M ∧ env 8 = .int .u32 ((notN (rb l i) % 2 ^ k : Nat) : Int) ∧ env 9 = .int .i64 i ∧ env 10 = .int .i64 k ∧
              B = H0.set g (.irow 5 .u8 (ints (tab M G)))) (fun k => 32 - k) 0 (H0.set g (.irow 5 .u8 (ints (tab M G)))) ?_
            ⟨by simp, by simp [d2], by simp [Nat.mod_one], by simp, by simp, rfl⟩ ?_
          · rw [← set_swap hg5']; exact set_sub (H0_sub _)
          · rintro R3 k env B ⟨f1, f2, f3, f4, f5, rfl⟩ fN fE
            simp -implicitDefEqProofs [q15_L21, q15_18, f5]
            refine ⟨fun hk => ?_, fun hk => ?_⟩
            · have hk32 : k < 32 := by omega
              have hx : i + k < M := by omega
              have hrl := rb_lt l i
              have hG := d6 (i + k) (by omega) hx
              rw [Nat.add_sub_cancel_left, rawb_out l (by omega), Nat.xor_zero] at hG
              have hb2 := bt_lt (rb l i) k
              have hnb : 1 - G (i + k) = bt (notN (rb l i)) k := by
                rw [hG, xor_one _ hb2, notN.eq_1, bt_xor, ones_bt, if_pos hk32]
              have hnlt := bt_lt (notN (rb l i)) k
              have v1 : IntKind.i64.wrap ((i : Int) + (k : Int)) = ((i + k : Nat) : Int) := by rw [wrap_i64 (by omega)]; simp
              have v2 : IntKind.i64.wrap ((k : Int) + 1) = ((k + 1 : Nat) : Int) := by rw [wrap_i64 (by omega)]; simp
              have v3 : IntKind.u8.wrap (1 - ((G (i + k) : Nat) : Int)) = ((bt (notN (rb l i)) k : Nat) : Int) := by
                rw [wrap_u8 (by omega), ← hnb]; omega
              have v4 : IntKind.u32.wrap ((bt (notN (rb l i)) k : Nat) : Int) = ((bt (notN (rb l i)) k : Nat) : Int) := wrap_u32 (by omega)
              have v5 : IntKind.u64.wrap (k : Int) = (k : Int) := wrap_u64 (by omega)
              have hp : 2 ^ k ≤ 2 ^ 31 := Nat.pow_le_pow_right (by decide) (by omega)
              have hmul : bt (notN (rb l i)) k * 2 ^ k < 2 ^ 32 := by
                have : bt (notN (rb l i)) k * 2 ^ k ≤ 1 * 2 ^ k := Nat.mul_le_mul_right _ (by omega)
                omega
              have v6 : shlI .u32 ((bt (notN (rb l i)) k : Nat) : Int) (k : Int) = ((bt (notN (rb l i)) k * 2 ^ k : Nat) : Int) := by
                have hm : min k IntKind.u32.bits = k := by simp [IntKind.bits]; omega
                unfold shlI
                rw [Int.toNat_natCast, hm]
                have : ((bt (notN (rb l i)) k : Nat) : Int) * (2 : Int) ^ k = ((bt (notN (rb l i)) k * 2 ^ k : Nat) : Int) := by norm_cast
                rw [this]
                exact bits_lt (k := .u32) hmul rfl
              have hacc : notN (rb l i) % 2 ^ k < 2 ^ 32 := Nat.lt_of_le_of_lt (Nat.mod_le _ _) (notN_lt hrl)
              have v7 : bOr .u32 ((notN (rb l i) % 2 ^ k : Nat) : Int) ((bt (notN (rb l i)) k * 2 ^ k : Nat) : Int) = ((notN (rb l i) % 2 ^ (k + 1) : Nat) : Int) := by
                rw [bOr_nat rfl hacc hmul, mask_or]
              simp -implicitDefEqProofs [q15_19, q15_20, f2, f3, f4, f5, v1, v2, v3, v4, v5, v6, v7, hx, tab_get, -Int.natCast_add, -Int.natCast_emod, -Int.natCast_mul, -Int.natCast_pow]
              refine fN (k + 1) _ _ _ (Sub_refl _) ⟨by omega, by simp [f2], by simp, by simp [f4], by simp, rfl⟩ (by omega)
            · refine fE _ _ _ (by simp) ?_
              have : k = 32 := by omega
              subst this
              simp -implicitDefEqProofs [q15_21, f3]
              refine hR _ _ _ ?_
              have hfin : notN (rb l i) % 2 ^ 32 = moreN 0 l := by
                rw [Nat.mod_eq_of_lt (notN_lt (rb_lt l i)), moreN_reg, hrN]
              simp only [a15, fpost, aress, upd_app, outOf]
              refine ⟨H0, H0_sub _, ?_, rfl⟩
              have : ((notN (rb l i) : Nat) : Int) % 4294967296 = ((moreN 0 l : Nat) : Int) := by rw [← hfin]; rfl
              simp [this]
  simp -implicitDefEqProofs [a15, q15_0, q15_1]
  refine call_row (w53 l hl hn) (.cons (.refl _) rfl .nil) ?_ ?_
  · intro hnil
    have hl0 : l.length = 0 := by have := congrArg List.length hnil; simp at this; omega
    simp -implicitDefEqProofs
    intro g
    have hz : [(0 : Int), 0, 0, 0, 0, 0, 0, 0, 0, 0, 0, 0, 0, 0, 0, 0, 0, 0, 0, 0, 0, 0, 0, 0, 0, 0, 0, 0, 0, 0, 0, 0] = ints (tab M (rawb l)) := by
      rw [hM, ← raw_tab, hnil]; rfl
    rw [hz]
    simp -implicitDefEqProofs [q15_2]
    refine main g _ _ (Sub_refl _) (by simp [hM, hl0]) (by simp)
  · intro g _
    simp -implicitDefEqProofs +contextual
    refine ⟨by omega, fun g2 _ _ => ?_⟩
    have hz : ints (List.take (8 * l.length) (rawbits l (8 * l.length))) ++ [(0 : Int), 0, 0, 0, 0, 0, 0, 0, 0, 0, 0, 0, 0, 0, 0, 0, 0, 0, 0, 0, 0, 0, 0, 0, 0, 0, 0, 0, 0, 0, 0, 0] = ints (tab M (rawb l)) := by
      rw [hM, ← raw_tab, ← ints_append, List.take_of_length_le (by simp)]; rfl
    rw [hz]
    simp -implicitDefEqProofs [q15_2]
    refine main g2 _ _ (Sub_refl _) (by simp [hM]) (by simp)
end Go.Proofs.Ytgbplcelcjffdaa
