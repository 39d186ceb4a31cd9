/- Texts of this claim, in order: SZg SMi SMj Sb Xa Gshelf Gplan SPa Gsuper Sc Xb Bd Be Bf Bg Bi Bj Bk Bl Bm Bn Bo Bp Bq Br Bs Bt Xc. -/
import Derived.Test.YtilgdnbijkcboaaH1
import Derived.Test.YtilgdnbijkcboaaL4
/- The walk of the reference's division. -/
namespace Go.Proofs.Ytilgdnbijkcboaa
open Go AVL
set_option linter.unusedVariables false
set_option linter.unusedSimpArgs false

theorem xor_one (x : Nat) (h : x < 2) : 1 - x = 1 ^^^ x := by
  rcases (by omega : x = 0 ∨ x = 1) with rfl | rfl <;> rfl
theorem xor_lt2 {a b : Nat} (ha : a < 2) (hb : b < 2) : a ^^^ b < 2 := Nat.xor_lt_two_pow (n := 1) ha hb
theorem ones_bt (p : Nat) : bt 4294967295 p = if p < 32 then 1 else 0 := by
  unfold bt
  have : (4294967295 : Nat) = 2 ^ 32 - 1 := rfl
  rw [this, Nat.testBit_two_pow_sub_one]
  by_cases h : p < 32 <;> simp [h]
theorem poly_lt (k : Nat) : poly[k]?.getD 0 < 2 := by
  by_cases h : k < 33
  · revert k; decide
  · have : poly.length ≤ k := by simp [poly]; omega
    simp [List.getElem?_eq_none this]

theorem set_swap {A : Heap} {g h : Nat} {c d : Cont} (e : ¬ g = h) : (A.set h d).set g c = (A.set g c).set h d := by
  funext x
  simp only [set_app]
  by_cases h1 : x = g
  · subst h1; simp [e]
  · simp [h1]

theorem w_ref02_Of (l : List Nat) (hl : Bytes l) (hn : l.length < 2 ^ 20) : Gives Try.prog F_ref02_Of [.isl .u8 (ints l)] (.int .u32 (moreN 0 l)) := by
  refine i_ref02_Of (by simp) fun R hR => ?_
  obtain ⟨M, hM⟩ : ∃ M, M = 8 * l.length + 32 := ⟨_, rfl⟩
  have main : ∀ (g : Nat) (env : AEnv) (A : Heap), (H0.set g (.irow 5 .u8 (ints (tab M (rawb l))))).Sub A → env 3 = .own g 0 M → env 4 = .int .i64 0 →
      X Try.prog R (.loop q_ref02_Of_L6) (.blk 0 (.thn (.seq (.region q_ref02_Of_6) (.seq (.seq (.region q_ref02_Of_7) (.block 2 (.loop q_ref02_Of_L15))) (.seq (.region q_ref02_Of_15) (.seq (.region q_ref02_Of_16) (.seq (.seq (.region q_ref02_Of_17) (.block 6 (.loop q_ref02_Of_L21))) (.seq (.region q_ref02_Of_21) .ret)))))) .done)) env A := by
    intro g env A hA e3 e4
    refine X_loopS (fun (i : Nat) env B => i ≤ 32 ∧ env 3 = .own g 0 M ∧ env 4 = .int .i64 i ∧ B = H0.set g (.irow 5 .u8 (ints (tab M fun p => if p < i then 1 - rawb l p else rawb l p)))) (fun i => 32 - i) 0 _ hA
      ⟨by simp, e3, by simpa using e4, by simp⟩ ?_
    rintro R' i env B ⟨h1, h2, h3, rfl⟩ hN hE
    simp -implicitDefEqProofs [q_ref02_Of_L6, q_ref02_Of_3, h3]
    refine ⟨fun hi => ?_, fun hi => ?_⟩
    · have hiM : i < M := by omega
      have r2 := rawb_lt l i
      have s1 : IntKind.u8.wrap (1 - ((rawb l i : Nat) : Int)) = ((1 - rawb l i : Nat) : Int) := by rw [wrap_u8 (by omega)]; omega
      have s4 : IntKind.i64.wrap ((i : Int) + 1) = ((i + 1 : Nat) : Int) := by rw [wrap_i64 (by omega)]; simp
      simp -implicitDefEqProofs [q_ref02_Of_4, h2, h3, hiM, tab_get, s1]
      simp -implicitDefEqProofs [q_ref02_Of_5, h3, s4, -Int.natCast_add]
      refine hN (i + 1) _ _ _ (Sub_refl _) ⟨by omega, by simp [h2], by simp, ?_⟩ (by omega)
      rw [tab_set]
      congr 3
      refine tab_ext fun p _ => ?_
      by_cases e : p = i
      · subst e; simp
      · have : (p < i + 1) = (p < i) := by apply propext; omega
        simp [e, this]
    · refine hE _ _ _ (by simp) ?_
      have : i = 32 := by omega
      subst this
      simp -implicitDefEqProofs +contextual [q_ref02_Of_6, h2]
      intro g5 hg5 hg5'
      simp -implicitDefEqProofs [q_ref02_Of_7]
      refine X_loopS (fun (s : Nat × (Nat → Nat)) env B => s.1 + 32 ≤ M ∧ env 3 = .own g 0 M ∧ env 5 = .own g5 0 33 ∧ env 6 = .int .i64 s.1 ∧ (∀ p, s.2 p < 2) ∧ (∀ p, s.1 ≤ p → p < M → s.2 p = bt (rb l s.1) (p - s.1) ^^^ rawb l p) ∧
          B = (H0.set g (.irow 5 .u8 (ints (tab M s.2)))).set g5 (.irow 5 .u8 (ints poly))) (fun s => M - s.1) (0, fun p => if p < 32 then 1 - rawb l p else rawb l p) _ (Sub_refl _)
        ⟨by simp; omega, by simp [h2], by simp, by simp, ?_, ?_, rfl⟩ ?_
      · intro p
        have := rawb_lt l p
        simp only
        split <;> omega
      · intro p _ hp
        have r2 := rawb_lt l p
        simp only [Nat.sub_zero, rb, ones_bt]
        split
        · exact xor_one _ r2
        · rw [Nat.zero_xor]
      · rintro R2 ⟨i, G⟩ env B ⟨d1, d2, d3, d4, d5, d6, rfl⟩ dN dE
        simp only at d1 d4 d5 d6
        have t1 : IntKind.i64.wrap ((i : Int) + 32) = ((i + 32 : Nat) : Int) := by rw [wrap_i64 (by omega)]; simp
        simp -implicitDefEqProofs [q_ref02_Of_L15, q_ref02_Of_8, d2, d4, t1, -Int.natCast_add]
        refine ⟨fun hi => ?_, fun hi => ?_⟩
        · have hiM : i < M := by omega
          have hbit := d6 i (Nat.le_refl i) hiM
          rw [Nat.sub_self] at hbit
          have hdv := div_bit l i
          rw [← hbit] at hdv
          have s4 : IntKind.i64.wrap ((i : Int) + 1) = ((i + 1 : Nat) : Int) := by rw [wrap_i64 (by omega)]; simp
          simp -implicitDefEqProofs [q_ref02_Of_9, d2, d4, hg5', hiM, tab_get, -Int.natCast_add]
          refine ⟨fun hb => ?_, fun hb => ?_⟩
          · have hb' : G i = 1 := by omega
            simp -implicitDefEqProofs [q_ref02_Of_10]
            refine X_loopS (fun (k : Nat) env B => k ≤ 33 ∧ env 3 = .own g 0 M ∧ env 5 = .own g5 0 33 ∧ env 6 = .int .i64 i ∧ env 7 = .int .i64 k ∧
                B = (H0.set g (.irow 5 .u8 (ints (tab M fun p => if i ≤ p ∧ p < i + k then G p ^^^ poly[p - i]?.getD 0 else G p)))).set g5 (.irow 5 .u8 (ints poly))) (fun k => 33 - k) 0 _ (Sub_refl _)
              ⟨by simp, by simp [d2], by simp [d3], by simp [d4], by simp, ?_⟩ ?_
            · congr 4
              refine tab_ext fun p _ => ?_
              rw [if_neg (by omega)]
            · rintro R3 k env B ⟨f1, f2, f3, f4, f5, rfl⟩ fN fE
              simp -implicitDefEqProofs [q_ref02_Of_L14, q_ref02_Of_11, f5]
              refine ⟨fun hk => ?_, fun hk => ?_⟩
              · have hk33 : k < 33 := by omega
                have hx : i + k < M := by omega
                have u1 : IntKind.i64.wrap ((i : Int) + (k : Int)) = ((i + k : Nat) : Int) := by rw [wrap_i64 (by omega)]; simp
                have u2 : IntKind.i64.wrap ((k : Int) + 1) = ((k + 1 : Nat) : Int) := by rw [wrap_i64 (by omega)]; simp
                have hpl : k < poly.length := hk33
                have hpg : poly[k]?.getD 0 = poly[k] := by rw [List.getElem?_eq_getElem hpl]; rfl
                have hp2 := poly_lt k
                rw [hpg] at hp2
                have hG2 := d5 (i + k)
                have u3 : bXor .u8 ((G (i + k) : Nat) : Int) ((poly[k] : Nat) : Int) = ((G (i + k) ^^^ poly[k] : Nat) : Int) := bXor_nat rfl (by simp [IntKind.bits]; omega) (by simp [IntKind.bits]; omega)
                simp -implicitDefEqProofs [q_ref02_Of_12, q_ref02_Of_13, f2, f3, f4, f5, u1, u2, u3, hg5', hx, hk33, hpl, tab_get, -Int.natCast_add]
                refine ⟨hk, fN (k + 1) _ _ _ ?_ ⟨by omega, by simp [f2], by simp [f3], by simp [f4], by simp, rfl⟩ (by omega)⟩
                rw [tab_set, set_swap hg5']
                rw [show (tab M fun q => if q = i + k then G (i + k) ^^^ poly[k] else if i ≤ q ∧ q < i + k then G q ^^^ poly[q - i]?.getD 0 else G q) = tab M (fun p => if i ≤ p ∧ p < i + (k + 1) then G p ^^^ poly[p - i]?.getD 0 else G p) from tab_ext fun p _ => by
                  by_cases e : p = i + k
                  · subst e
                    rw [if_pos rfl, if_pos (by omega), Nat.add_sub_cancel_left, hpg]
                  · rw [if_neg e]
                    by_cases e2 : i ≤ p ∧ p < i + k
                    · rw [if_pos e2, if_pos (by omega)]
                    · rw [if_neg e2, if_neg (by omega)]]
                rw [set_set]
                exact Sub_refl _
              · refine fE _ _ _ (by simp) ?_
                have : k = 33 := by omega
                subst this
                simp -implicitDefEqProofs [q_ref02_Of_14, f4, s4, -Int.natCast_add]
                refine dN (i + 1, fun p => if i ≤ p ∧ p < i + 33 then G p ^^^ poly[p - i]?.getD 0 else G p) _ _ _ (Sub_refl _) ⟨by simp only; omega, by simp [f2], by simp [f3], by simp, ?_, ?_, rfl⟩ (by simp only; omega)
                · intro p
                  simp only
                  split
                  · exact xor_lt2 (d5 p) (poly_lt _)
                  · exact d5 p
                · intro p hp hpM
                  simp only at hp ⊢
                  obtain ⟨q, rfl⟩ : ∃ q, p = i + (q + 1) := ⟨p - i - 1, by omega⟩
                  have e1 : i + (q + 1) - (i + 1) = q := by omega
                  have e2 : i + (q + 1) - i = q + 1 := by omega
                  have hG := d6 (i + (q + 1)) (by omega) hpM
                  rw [e2] at hG
                  have hd := hdv q
                  rw [if_pos hb'] at hd
                  rw [e1, e2, hd, hG]
                  by_cases hq : q < 32
                  · rw [if_pos (by omega), poly_bt q hq, Nat.xor_assoc, Nat.xor_assoc, Nat.xor_comm (rawb l (i + (q + 1)))]
                  · rw [if_neg (by omega), bt_big (r := 3988292384) (by decide) (by omega), Nat.xor_zero]
          · have hb' : ¬ G i = 1 := by omega
            simp -implicitDefEqProofs [q_ref02_Of_14, d4, s4, -Int.natCast_add]
            refine dN (i + 1, G) _ _ _ (Sub_refl _) ⟨by simp only; omega, by simp [d2], by simp [d3], by simp, d5, ?_, rfl⟩ (by simp only; omega)
            intro p hp hpM
            simp only at hp ⊢
            obtain ⟨q, rfl⟩ : ∃ q, p = i + (q + 1) := ⟨p - i - 1, by omega⟩
            have e1 : i + (q + 1) - (i + 1) = q := by omega
            have e2 : i + (q + 1) - i = q + 1 := by omega
            have hG := d6 (i + (q + 1)) (by omega) hpM
            rw [e2] at hG
            have hd := hdv q
            rw [if_neg hb', Nat.xor_zero] at hd
            rw [e1, hd, hG]
        · refine dE _ _ _ (by simp) ?_
          have hiN : i = 8 * l.length := by omega
          have hrN : rb l i = reg 4294967295 l := by rw [hiN, rb_reg l hl _ (Nat.le_refl _), List.take_length]
          have w1 : IntKind.i64.wrap ((M : Int) - 32) = ((i : Nat) : Int) := by rw [wrap_i64 (by omega)]; omega
          simp -implicitDefEqProofs [q_ref02_Of_15, q_ref02_Of_16, q_ref02_Of_17, d2, w1]
          refine X_loopS (fun (k : Nat) env B => k ≤ 32 ∧ env 3 = .own g 0 M ∧ env 8 = .int .u32 ((notN (rb l i) % 2 ^ k : Nat) : Int) ∧ env 9 = .int .i64 i ∧ env 10 = .int .i64 k ∧
              B = H0.set g (.irow 5 .u8 (ints (tab M G)))) (fun k => 32 - k) 0 (H0.set g (.irow 5 .u8 (ints (tab M G)))) ?_
            ⟨by simp, by simp [d2], by simp [Nat.mod_one], by simp, by simp, rfl⟩ ?_
          · rw [← set_swap hg5']; exact set_sub (H0_sub _)
          · rintro R3 k env B ⟨f1, f2, f3, f4, f5, rfl⟩ fN fE
            simp -implicitDefEqProofs [q_ref02_Of_L21, q_ref02_Of_18, f5]
            refine ⟨fun hk => ?_, fun hk => ?_⟩
            · have hk32 : k < 32 := by omega
              have hx : i + k < M := by omega
              have hrl := rb_lt l i
              have hG := d6 (i + k) (by omega) hx
              rw [Nat.add_sub_cancel_left, rawb_out l (by omega), Nat.xor_zero] at hG
              have hb2 := bt_lt (rb l i) k
              have hnb : 1 - G (i + k) = bt (notN (rb l i)) k := by
                rw [hG, xor_one _ hb2, notN.eq_1, bt_xor, ones_bt, if_pos hk32]
              have hnlt := bt_lt (notN (rb l i)) k
              have v1 : IntKind.i64.wrap ((i : Int) + (k : Int)) = ((i + k : Nat) : Int) := by rw [wrap_i64 (by omega)]; simp
              have v2 : IntKind.i64.wrap ((k : Int) + 1) = ((k + 1 : Nat) : Int) := by rw [wrap_i64 (by omega)]; simp
              have v3 : IntKind.u8.wrap (1 - ((G (i + k) : Nat) : Int)) = ((bt (notN (rb l i)) k : Nat) : Int) := by
                rw [wrap_u8 (by omega), ← hnb]; omega
              have v4 : IntKind.u32.wrap ((bt (notN (rb l i)) k : Nat) : Int) = ((bt (notN (rb l i)) k : Nat) : Int) := wrap_u32 (by omega)
              have v5 : IntKind.u64.wrap (k : Int) = (k : Int) := wrap_u64 (by omega)
              have hp : 2 ^ k ≤ 2 ^ 31 := Nat.pow_le_pow_right (by decide) (by omega)
              have hmul : bt (notN (rb l i)) k * 2 ^ k < 2 ^ 32 := by
                have : bt (notN (rb l i)) k * 2 ^ k ≤ 1 * 2 ^ k := Nat.mul_le_mul_right _ (by omega)
                omega
              have v6 : shlI .u32 ((bt (notN (rb l i)) k : Nat) : Int) (k : Int) = ((bt (notN (rb l i)) k * 2 ^ k : Nat) : Int) := by
                have hm : min k IntKind.u32.bits = k := by simp [IntKind.bits]; omega
                unfold shlI
                rw [Int.toNat_natCast, hm]
                have : ((bt (notN (rb l i)) k : Nat) : Int) * (2 : Int) ^ k = ((bt (notN (rb l i)) k * 2 ^ k : Nat) : Int) := by norm_cast
                rw [this]
                exact bits_lt (k := .u32) hmul rfl
              have hacc : notN (rb l i) % 2 ^ k < 2 ^ 32 := Nat.lt_of_le_of_lt (Nat.mod_le _ _) (notN_lt hrl)
              have v7 : bOr .u32 ((notN (rb l i) % 2 ^ k : Nat) : Int) ((bt (notN (rb l i)) k * 2 ^ k : Nat) : Int) = ((notN (rb l i) % 2 ^ (k + 1) : Nat) : Int) := by
                rw [bOr_nat rfl hacc hmul, mask_or]
              simp -implicitDefEqProofs [q_ref02_Of_19, q_ref02_Of_20, f2, f3, f4, f5, v1, v2, v3, v4, v5, v6, v7, hx, tab_get, -Int.natCast_add, -Int.natCast_emod, -Int.natCast_mul, -Int.natCast_pow]
              refine fN (k + 1) _ _ _ (Sub_refl _) ⟨by omega, by simp [f2], by simp, by simp [f4], by simp, rfl⟩ (by omega)
            · refine fE _ _ _ (by simp) ?_
              have : k = 32 := by omega
              subst this
              simp -implicitDefEqProofs [q_ref02_Of_21, f3]
              refine hR _ _ _ ?_
              have hfin : notN (rb l i) % 2 ^ 32 = moreN 0 l := by
                rw [Nat.mod_eq_of_lt (notN_lt (rb_lt l i)), moreN_reg, hrN]
              simp only [a_ref02_Of, fpost, aress, upd_app, outOf]
              refine ⟨H0, H0_sub _, ?_, rfl⟩
              have : ((notN (rb l i) : Nat) : Int) % 4294967296 = ((moreN 0 l : Nat) : Int) := by rw [← hfin]; rfl
              simp [this]
  simp -implicitDefEqProofs [a_ref02_Of, q_ref02_Of_0, q_ref02_Of_1]
  refine call_row (w_ref02_bits l hl hn) (.cons (.refl _) rfl .nil) ?_ ?_
  · intro hnil
    have hl0 : l.length = 0 := by have := congrArg List.length hnil; simp at this; omega
    simp -implicitDefEqProofs
    intro g
    have hz : [(0 : Int), 0, 0, 0, 0, 0, 0, 0, 0, 0, 0, 0, 0, 0, 0, 0, 0, 0, 0, 0, 0, 0, 0, 0, 0, 0, 0, 0, 0, 0, 0, 0] = ints (tab M (rawb l)) := by
      rw [hM, ← raw_tab, hnil]; rfl
    rw [hz]
    simp -implicitDefEqProofs [q_ref02_Of_2]
    refine main g _ _ (Sub_refl _) (by simp [hM, hl0]) (by simp)
  · intro g _
    simp -implicitDefEqProofs +contextual
    refine ⟨by omega, fun g2 _ _ => ?_⟩
    have hz : ints (List.take (8 * l.length) (rawbits l (8 * l.length))) ++ [(0 : Int), 0, 0, 0, 0, 0, 0, 0, 0, 0, 0, 0, 0, 0, 0, 0, 0, 0, 0, 0, 0, 0, 0, 0, 0, 0, 0, 0, 0, 0, 0, 0] = ints (tab M (rawb l)) := by
      rw [hM, ← raw_tab, ← ints_append, List.take_of_length_le (by simp)]; rfl
    rw [hz]
    simp -implicitDefEqProofs [q_ref02_Of_2]
    refine main g2 _ _ (Sub_refl _) (by simp [hM]) (by simp)
end Go.Proofs.Ytilgdnbijkcboaa

/- What a slot map's sector is. -/
namespace Go.Proofs.Ytilgdnbijkcboaa
open Go AVL
attribute [-simp] AV.isAgg aappI aapp alen shp good comps
set_option linter.unusedVariables false
set_option linter.unusedSimpArgs false
set_option maxRecDepth 20000

def Slots (l : List Nat) : Prop := ∀ x ∈ l, x ≤ 2
theorem Slots.bytes {l : List Nat} (h : Slots l) : Bytes l := fun x hx => by have := h x hx; omega
theorem Slots.take {l : List Nat} (h : Slots l) (n : Nat) : Slots (l.take n) := fun x hx => h x (List.mem_of_mem_take hx)
theorem Slots.getD {l : List Nat} (h : Slots l) (k : Nat) : l[k]?.getD 0 ≤ 2 := by
  by_cases hk : k < l.length
  · rw [List.getElem?_eq_getElem hk]; exact h _ (List.getElem_mem hk)
  · rw [List.getElem?_eq_none (by omega)]; simp
def pkv (l : List Nat) (j : Nat) : Nat := l[4 * j]?.getD 0 + 4 * l[4 * j + 1]?.getD 0 + 16 * l[4 * j + 2]?.getD 0 + 64 * l[4 * j + 3]?.getD 0
def pk (l : List Nat) : List Nat := tab ((l.length + 3) / 4) (pkv l)
/-- Sealed: so many bytes, noughts up to 252, and their sum. -/
def sealN (b : List Nat) : List Nat := b.take 252 ++ List.replicate (252 - b.length) 0 ++ fourN (moreN 0 (b.take 252 ++ List.replicate (252 - b.length) 0))
theorem sealN_len (b : List Nat) : (sealN b).length = 256 := by simp [sealN, fourN]; omega
theorem sealN_whole {b : List Nat} (h : b.length ≤ 252) : whole (((whole b).take 252) ++ fourN (moreN 0 ((whole b).take 252))) = sealN b := by
  have e : (whole b).take 252 = b.take 252 ++ List.replicate (252 - b.length) 0 := by
    unfold whole
    rw [List.take_append, List.take_take, List.take_replicate]
    congr 2
    simp; omega
  rw [e]
  unfold whole sealN
  have hl : (b.take 252 ++ List.replicate (252 - b.length) 0 ++ fourN (moreN 0 (b.take 252 ++ List.replicate (252 - b.length) 0))).length = 256 := by simp [fourN]; omega
  rw [List.take_of_length_le (by omega), hl]
  simp
theorem sealN_bytes {b : List Nat} (h : Bytes b) : Bytes (sealN b) := fun x hx => by
  simp only [sealN, List.mem_append] at hx
  rcases hx with (hx | hx) | hx
  · exact h x (List.mem_of_mem_take hx)
  · rw [List.eq_of_mem_replicate hx]; decide
  · exact bytes_four _ x hx
end Go.Proofs.Ytilgdnbijkcboaa

/- The walks of a slot map's Put and of the reference's sealed sector. -/
namespace Go.Proofs.Ytilgdnbijkcboaa
open Go AVL
attribute [-simp] AV.isAgg aappI aapp alen shp good comps
set_option linter.unusedVariables false
set_option linter.unusedSimpArgs false
set_option maxRecDepth 20000

section
variable {A B C : Heap} {K Kp : AV → Heap → Prop} {P : Program}
theorem le_four (s : Nat) : le 4 s = fourN s := by
  simp [le, fourN]
  omega
theorem fill_step {S : List Nat} {n i : Nat} (hS : S.length = n) (h : i < n) : (S.take i ++ List.replicate (n - i) 0).set i (S[i]'(by omega)) = S.take (i + 1) ++ List.replicate (n - (i + 1)) 0 := by
  have hl : (S.take i).length = i := by simp; omega
  rw [List.set_append_right _ _ (by omega), hl, Nat.sub_self, show n - i = (n - (i + 1)) + 1 by omega, List.replicate_succ, List.set_cons_zero, List.take_succ_eq_append_getElem (by omega), List.append_assoc]; rfl
theorem w_ref08_Sealed {b : List Nat} (hb : Bytes b) (hlen : b.length ≤ 252) : Gives Try.prog F_ref08_Sealed [.isl .u8 (ints b)] (.iarr .u8 256 (ints (sealN b))) := by
  refine v_ref08_Sealed (by simp) ?_
  simp -implicitDefEqProofs [a_ref08_Sealed, q_ref08_Sealed_0, q_ref08_Sealed_1, q_ref08_Sealed_2, -List.reduceReplicate]
  intro g2
  refine (SlS.nil (e := 5) (k := .u8) (Sub_refl _)).appS (ys := ints b) (Sub_refl _) srcI_isl (by simp; omega) fun v C hv hag => ?_
  have hs := hv.scl
  rw [List.nil_append] at hv
  have c2 := hv.sub _ _ set_eq'
  simp -implicitDefEqProofs [-List.reduceReplicate]
  refine X_lp (fun (n : Nat) env E => n ≤ 252 - b.length ∧ env 2 = .ptr g2 0 ∧ SlS 5 .u8 (env 3) (ints (b ++ List.replicate n 0)) (H0.set g2 (.var 54 [.iarr .u8 256 (List.replicate 256 0)])) E) (fun n => 252 - b.length - n) 0
    ⟨by omega, by simp, by simpa using hv⟩ ?_
  clear v hv hag hs C c2
  rintro n env E ⟨hn, e2, hv⟩
  obtain ⟨v, e3⟩ : ∃ v, env 3 = v := ⟨_, rfl⟩
  rw [e3] at hv
  have hs := hv.scl
  by_cases hlt : n < 252 - b.length
  · have hlt' : (b.length : Int) + n < 252 := by omega
    simp -implicitDefEqProofs [q_ref08_Sealed_L5, q_ref08_Sealed_3, q_ref08_Sealed_4, e2, e3, hv.len, hlt', hs.size, hs.shp, hs.agg, hs.good, hs.comps, hs.st, -List.reduceReplicate]
    intro g9 h9
    refine hv.appS (ys := [0]) (sub_none h9) (srcI_row set_eq' rfl) (by simp; omega) fun v2 C2 hv2 hag2 => ?_
    have hs2 := hv2.scl
    simp -implicitDefEqProofs [-List.reduceReplicate]
    refine lp_next (n + 1) ⟨by omega, by simp [e2], ?_⟩ (by omega)
    rw [List.replicate_succ', ← List.append_assoc]
    simpa [ints, -List.reduceReplicate] using hv2
  · have hne : n = 252 - b.length := by omega
    have hlt' : ¬ (b.length : Int) + n < 252 := by omega
    obtain ⟨L, hL⟩ : ∃ L, b ++ List.replicate n 0 = L := ⟨_, rfl⟩
    have hLl : L.length = 252 := by rw [← hL]; simp; omega
    have hLb : Bytes L := fun x hx => by
      rw [← hL] at hx
      rcases List.mem_append.1 hx with hx | hx
      · exact hb x hx
      · rw [List.eq_of_mem_replicate hx]; decide
    have hsl : sealN b = L ++ fourN (moreN 0 L) := by
      have : b.take 252 ++ List.replicate (252 - b.length) 0 = L := by rw [List.take_of_length_le hlen, ← hne]; exact hL
      unfold sealN; rw [this]
    rw [hL] at hv
    have hm := moreN_lt (s := 0) (by decide) hLb
    have wu : IntKind.u64.wrap ((moreN 0 L : Nat) : Int) = ((moreN 0 L : Nat) : Int) := wrap_u64 (by omega)
    simp -implicitDefEqProofs [q_ref08_Sealed_L5, q_ref08_Sealed_3, q_ref08_Sealed_5, e2, e3, hv.len, hLl, hs.size, hs.shp, hs.agg, hs.good, hs.comps, hs.st, -List.reduceReplicate]
    refine (w_ref02_Of L hLb (by omega)).call (.cons hv.vw hs.agg .nil) rfl ?_
    simp -implicitDefEqProofs [wu, -List.reduceReplicate]
    refine (w_ref01_Put 4 (moreN 0 L) (by omega) (by decide)).call (.cons (.refl _) rfl (.cons (.refl _) rfl .nil)) fun v4 C4 h4 => ?_
    have h4s := h4.scl
    simp -implicitDefEqProofs [h4s.agg, -List.reduceReplicate]
    obtain ⟨gq, g1, g2', g3⟩ := h4.pos (by simp)
    subst g1
    refine hv.appS (ys := ints (fourN (moreN 0 L))) h4.sub (srcI_row (by rw [← le_four]; exact g3) (by simp [fourN])) (by simp [hLl, fourN]) fun v5 C5 hv5 hag5 => ?_
    rw [ints_append, ← hsl] at hv5
    obtain ⟨S, hS⟩ : ∃ S, sealN b = S := ⟨_, rfl⟩
    have hSl : S.length = 256 := by rw [← hS]; exact sealN_len b
    rw [hS] at hv5 ⊢
    obtain ⟨x, r1, r2, r3⟩ := hv5.pos (by simp [hSl])
    subst r1
    have c2 := hv5.sub _ _ set_eq'
    simp -implicitDefEqProofs [hSl, q_ref08_Sealed_6, q_ref08_Sealed_7, -List.reduceReplicate]
    intro g4 h4'
    have nx4 := fresh_ne r3 h4'
    have n24 := fresh_ne c2 h4'
    refine X_lp (fun (i : Nat) env E => i ≤ 256 ∧ env 2 = .ptr g2 0 ∧ env 3 = .own x 0 256 ∧ env 4 = .ptr g4 0 ∧ env 5 = .int .i64 i ∧ E = C5.set g4 (.var 54 [.iarr .u8 256 (ints (S.take i ++ List.replicate (256 - i) 0))])) (fun i => 256 - i) 0
      ⟨by omega, by simp [e2], by simp, by simp, by simp, by simp [ints, -List.reduceReplicate]⟩ ?_
    rintro i env E ⟨hi, e2, e3, e4, e5, rfl⟩
    by_cases hil : i < 256
    · have hil' : (i : Int) < 256 := by omega
      have wi : IntKind.i64.wrap ((i : Int) + 1) = (i : Int) + 1 := wrap_i64 (by omega)
      simp -implicitDefEqProofs [q_ref08_Sealed_L11, q_ref08_Sealed_8, q_ref08_Sealed_9, q_ref08_Sealed_10, e2, e3, e4, e5, hil, hil', wi, nx4, r3, hSl, -List.reduceReplicate]
      refine ⟨by omega, lp_next (i + 1) ⟨by omega, by simp [e2], by simp [e3], by simp [e4], by simp, ?_⟩ (by omega)⟩
      rw [fill_step hSl hil]
    · have hie : i = 256 := by omega
      subst hie
      simp -implicitDefEqProofs [q_ref08_Sealed_L11, q_ref08_Sealed_8, q_ref08_Sealed_11, e2, e3, e4, e5, n24, c2, hSl, -List.reduceReplicate]
      rw [List.take_of_length_le (by omega)]
end
end Go.Proofs.Ytilgdnbijkcboaa

/- The walks of a cursor over a sector. -/
namespace Go.Proofs.Ytilgdnbijkcboaa
open Go AVL
set_option linter.unusedVariables false
set_option linter.unusedSimpArgs false
set_option maxRecDepth 8000

section
variable {A B : Heap} {K Kp : AV → Heap → Prop}
/-- A cursor: what of a sector is still to be read. -/
structure CurI (g g1 : Nat) (x : List Nat) (at_ m : Nat) (B : Heap) : Prop where
  cg : B g = some (.var T_word_Cursor [.asl g1 0 256 at_ m, .bool false])
  c1 : B g1 = some (.var T_256_uint8 [.iarr .u8 256 (ints x)])
  le : at_ + m ≤ 256
theorem w_word_From {g1 at_ m : Nat} {x : List Nat} (h1 : B g1 = some (.var T_256_uint8 [.iarr .u8 256 (ints x)])) (hle : at_ + m ≤ 256) (hk : ∀ g B', B g = none → CurI g g1 x at_ m B' → B.Sub B' → K (.ptr g 0) B') : SimX Try.prog F_word_From [.asl g1 0 256 at_ m] B (outK K Kp) := by
  refine j_word_From (by simp) ?_
  simp -implicitDefEqProofs [a_word_From, q_word_From_0, q_word_From_1, outOf]
  intro g hg
  exact hk g _ hg ⟨set_eq', by rw [set_ne' (fun e => by rw [e, hg] at h1; cases h1)]; exact h1, hle⟩ (sub_none hg)
theorem w_Cursor_Bytes {g g1 at_ m n : Nat} {x : List Nat} (hx : Bytes x) (hxl : x.length = 256) (h : CurI g g1 x at_ m B) (hn : n ≤ m)
    (hk : ∀ g' B', CurI g g1 x (at_ + n) (m - n) B' → B g' = none → B' g' = some (.irow T_uint8 .u8 (ints ((x.drop at_).take n))) → (∀ y c, y ≠ g → B y = some c → B' y = some c) → K (.own g' 0 n) B') : SimX Try.prog F_Pword_Cursor_Bytes [.ptr g 0, .int .i64 n] B (outK K Kp) := by
  refine j_Pword_Cursor_Bytes (by simp) ?_
  have cg := h.cg
  have c1 := h.c1
  have hle := h.le
  have n0 : ¬ (n : Int) < 0 := by omega
  have n0' : (0 : Int) ≤ n := by omega
  have nm : ¬ (m : Int) < n := by omega
  have nm' : (n : Int) ≤ m := by omega
  have hbig : (n : Int) ≤ 140737488355328 := by omega
  unfold a_Pword_Cursor_Bytes
  obtain ⟨r4, hr4⟩ : ∃ r, r = q_Pword_Cursor_Bytes_4 := ⟨_, rfl⟩; rw [← hr4]
  obtain ⟨r5, hr5⟩ : ∃ r, r = q_Pword_Cursor_Bytes_5 := ⟨_, rfl⟩; rw [← hr5]
  obtain ⟨r6, hr6⟩ : ∃ r, r = q_Pword_Cursor_Bytes_6 := ⟨_, rfl⟩; rw [← hr6]
  simp -implicitDefEqProofs [q_Pword_Cursor_Bytes_0, q_Pword_Cursor_Bytes_1, cg, n0, nm]
  simp -implicitDefEqProofs [-List.reduceReplicate, hr4, q_Pword_Cursor_Bytes_4, n0', hbig]
  intro g' hg'
  have ng : ¬ g = g' := fun e => by rw [e, hg'] at cg; cases cg
  have n1 : ¬ g1 = g' := fun e => by rw [e, hg'] at c1; cases c1
  simp -implicitDefEqProofs [-List.reduceReplicate, hr5, q_Pword_Cursor_Bytes_5, cg, ng, acopy]
  have hcpy : spl (List.replicate n 0) 0 (ints (((x.drop at_).take m).take n)) = ints ((x.drop at_).take n) := by
    rw [List.take_take, Nat.min_eq_left hn]
    have hl : (ints ((x.drop at_).take n)).length = n := by simp; omega
    unfold spl
    have h2 : (List.replicate n (0 : Int)).drop (0 + (ints ((x.drop at_).take n)).length) = [] := List.drop_of_length_le (by rw [List.length_replicate]; omega)
    rw [h2]; simp
  simp -implicitDefEqProofs [-List.reduceReplicate, c1, n1, hxl]
  rw [hcpy]
  obtain ⟨Y, hY⟩ : ∃ Y, Y = B.set g' (.irow T_uint8 .u8 (ints ((x.drop at_).take n))) := ⟨_, rfl⟩
  have hY' : B.set g' (.irow 5 .u8 (ints ((x.drop at_).take n))) = Y := hY.symm
  try simp only [hY']
  have yg : Y g = some (.var T_word_Cursor [.asl g1 0 256 at_ m, .bool false]) := by rw [hY, set_ne' ng]; exact cg
  have y1 : Y g1 = some (.var T_256_uint8 [.iarr .u8 256 (ints x)]) := by rw [hY, set_ne' n1]; exact c1
  have yn : Y g' = some (.irow T_uint8 .u8 (ints ((x.drop at_).take n))) := by rw [hY, set_eq']
  have hs : B.Sub Y := by rw [hY]; exact sub_none hg'
  clear hY hY'
  have hng1 : ¬ g1 = g := fun e => by rw [e, cg] at c1; cases c1
  simp -implicitDefEqProofs [hr6, q_Pword_Cursor_Bytes_6, q_Pword_Cursor_Bytes_7, yg, n0', nm', outOf]
  refine hk g' _ ⟨set_eq', by rw [set_ne' hng1]; exact y1, by omega⟩ hg' (by rw [set_ne' (fun e => ng e.symm)]; exact yn) fun y c hy hc => by rw [set_ne' hy]; exact hs _ _ hc
theorem w_Cursor_Num {g g1 at_ m n : Nat} {x : List Nat} (hx : Bytes x) (hxl : x.length = 256) (h : CurI g g1 x at_ m B) (hn : n ≤ m) (hn8 : n ≤ 8)
    (hk : ∀ B', CurI g g1 x (at_ + n) (m - n) B' → (∀ y c, y ≠ g → B y = some c → B' y = some c) → K (.int .u64 (leN ((x.drop at_).take n))) B') : SimX Try.prog F_Pword_Cursor_Num [.ptr g 0, .int .i64 n] B (outK K Kp) := by
  refine j_Pword_Cursor_Num (by simp) ?_
  simp -implicitDefEqProofs [a_Pword_Cursor_Num, q_Pword_Cursor_Num_0, q_Pword_Cursor_Num_1]
  refine w_Cursor_Bytes hx hxl h hn fun g' B' hc hg' hr hkp => ?_
  simp -implicitDefEqProofs
  have hl : ((x.drop at_).take n).length = n := by have := h.le; simp; omega
  refine (w_word_Get ((x.drop at_).take n) (bytes_take (bytes_drop hx at_) n) (by omega)).call (.cons (vw_irow hr (by simp [hl])) rfl .nil) rfl ?_
  simp -implicitDefEqProofs [outOf]
  exact hk B' hc hkp
/-- Nothing but noughts. -/
def zeroB (l : List Nat) : Bool := l.all fun b => decide (b = 0)
structure ZerI (l : List Nat) (i : Nat) (env : AEnv) (B : Heap) : Prop where
  le : i ≤ l.length
  eq : zeroB l = zeroB (l.drop i)
  e5 : env 5 = .isl .u8 (ints l)
  e6 : env 6 = .int .i64 l.length
  e7 : env 7 = .int .i64 i
theorem w_word_Zero {l : List Nat} (hl : l.length < 2 ^ 40) : Gives Try.prog F_word_Zero [.isl .u8 (ints l)] (.bool (zeroB l)) := by
  refine v_word_Zero (by simp) ?_
  simp -implicitDefEqProofs [a_word_Zero, q_word_Zero_0, q_word_Zero_1]
  refine X_lp (ZerI l) (fun i => l.length - i) 0 ⟨by omega, by simp, by simp, by simp, by simp⟩ ?_
  rintro i env B ⟨hi, heq, e5, e6, e7⟩
  simp -implicitDefEqProofs [q_word_Zero_L7, q_word_Zero_2, e6, e7]
  refine ⟨fun hlt => ?_, fun hge => ?_⟩
  · have hii : (i : Int) < l.length := by omega
    have wi : IntKind.i64.wrap ((i : Int) + 1) = (i : Int) + 1 := wrap_i64 (by omega)
    rw [List.drop_eq_getElem_cons hlt] at heq
    obtain ⟨b, hb⟩ : ∃ b, b = l[i] := ⟨_, rfl⟩
    rw [← hb] at heq
    have hbd : l[i]?.getD 0 = b := by rw [List.getElem?_eq_getElem hlt, hb]; rfl
    by_cases hz : b = 0
    · have hl0 : l[i] = 0 := by rw [← hb]; exact hz
      have hz2 : zeroB l = zeroB (l.drop (i + 1)) := by rw [heq]; simp [zeroB, hz]
      simp -implicitDefEqProofs [q_word_Zero_3, q_word_Zero_4, q_word_Zero_6, e5, e7, hlt, hii, hbd, hz, hl0, wi]
      exact lp_next (i + 1) ⟨by omega, hz2, by simp [e5], by simp [e6], by simp⟩ (by omega)
    · have hz2 : zeroB l = false := by rw [heq]; simp [zeroB, hz]
      have hl0 : ¬ l[i] = 0 := by rw [← hb]; exact hz
      have hz' : ¬ (b : Int) = 0 := by omega
      simp -implicitDefEqProofs [q_word_Zero_3, q_word_Zero_4, q_word_Zero_5, e5, e7, hlt, hii, hbd, hz, hl0, hz', a_word_Zero, outOf, hz2]
  · have hz2 : zeroB l = true := by rw [heq, List.drop_of_length_le (by omega)]; rfl
    simp -implicitDefEqProofs [q_word_Zero_7, a_word_Zero, outOf, hz2]
theorem w_Cursor_Rest {g g1 at_ m : Nat} {x : List Nat} (hxl : x.length = 256) (h : CurI g g1 x at_ m B) (hk : K (.bool (zeroB ((x.drop at_).take m))) B) : SimX Try.prog F_Pword_Cursor_Rest [.ptr g 0] B (outK K Kp) := by
  refine j_Pword_Cursor_Rest (by simp) ?_
  have cg := h.cg
  simp -implicitDefEqProofs [a_Pword_Cursor_Rest, q_Pword_Cursor_Rest_0, q_Pword_Cursor_Rest_1, cg]
  have hv := vw_arrP (i := at_) (n := m) h.c1 (by simp [hxl])
  rw [ints_drop, ints_take] at hv
  refine (w_word_Zero (l := (x.drop at_).take m) (by simp; omega)).call (.cons hv rfl .nil) rfl ?_
  simp -implicitDefEqProofs [outOf]
  exact hk
end
end Go.Proofs.Ytilgdnbijkcboaa

/- Entries as sectors, plainly. -/
namespace Go.Proofs.Ytilgdnbijkcboaa
open Go AVL
attribute [-simp] AV.isAgg aappI aapp alen List.reduceReplicate
set_option linter.unusedVariables false
set_option linter.unusedSimpArgs false
set_option maxRecDepth 8000

/-- Bytes of a sector. -/
def Sc256 (s : List Nat) : Prop := s.length = 256 ∧ Bytes s
instance (s : List Nat) : Decidable (Sc256 s) := by unfold Sc256 Bytes; infer_instance
/-- An entry's bytes. -/
def encE (e : En) : List Nat := le 6 e.count.toNat ++ (le 2 e.slot.toNat ++ (e.addr ++ [0, 0]))
def bytesE (l : List En) : List Nat := (l.map encE).flatten
def secE (l : List En) : List Nat := sealN (bytesE l)
/-- Entries whose numbers fit. -/
def Fit (e : En) : Prop := 0 ≤ e.count ∧ e.count < 281474976710656 ∧ 0 ≤ e.slot ∧ e.slot < 65536
@[simp] theorem encE_len (e : En) : (encE e).length = 42 := by simp [encE, e.h32]
theorem encE_bytes (e : En) : Bytes (encE e) := bytes_append (le_bytes _ _) (bytes_append (le_bytes _ _) (bytes_append e.hb (by unfold Bytes; decide)))
theorem bytesE_len : ∀ l, (bytesE l).length = 42 * l.length
  | [] => rfl
  | e :: l => by
    have := bytesE_len l
    unfold bytesE at this ⊢
    simp only [List.map_cons, List.flatten_cons, List.length_append, encE_len, List.length_cons, this]
    omega
theorem bytesE_bytes (l : List En) : Bytes (bytesE l) := fun x hx => by
  unfold bytesE at hx
  rw [List.mem_flatten] at hx
  obtain ⟨m, hm, hx⟩ := hx
  rw [List.mem_map] at hm
  obtain ⟨e, _, rfl⟩ := hm
  exact encE_bytes e x hx
theorem bytesE_cons (e : En) (l : List En) : bytesE (e :: l) = encE e ++ bytesE l := rfl
theorem bytesE_app (a b : List En) : bytesE (a ++ b) = bytesE a ++ bytesE b := by simp [bytesE]
theorem bytesE_snoc (l : List En) (e : En) : bytesE (l ++ [e]) = bytesE l ++ encE e := by simp [bytesE]
theorem secE_sec (l : List En) : Sc256 (secE l) := ⟨sealN_len _, sealN_bytes (bytesE_bytes l)⟩
/-- The number in so many bytes from a place on. -/
def numAt (x : List Nat) (i k : Nat) : Nat := leN ((x.drop i).take k)
theorem numAt_lt {x : List Nat} (hx : Bytes x) (i k : Nat) : numAt x i k < 256 ^ k := by
  have h := leN_lt ((x.drop i).take k) (bytes_take (bytes_drop hx i) k)
  have h2 : ((x.drop i).take k).length ≤ k := by simp; omega
  have h3 : 256 ^ ((x.drop i).take k).length ≤ 256 ^ k := Nat.pow_le_pow_right (by decide) h2
  unfold numAt; omega
theorem le_numAt {x : List Nat} (hx : Bytes x) {i k : Nat} (h : i + k ≤ x.length) : le k (numAt x i k) = (x.drop i).take k := by
  have h1 : ((x.drop i).take k).length = k := by simp; omega
  have h2 := le_leN ((x.drop i).take k) (bytes_take (bytes_drop hx i) k)
  rw [h1] at h2
  exact h2
/-- The entry that stands in the k-th place of a sector. -/
def oneE (x : List Nat) (i : Nat) : En :=
  if h : Sc256 x ∧ i + 42 ≤ 256 then ⟨(x.drop (i + 8)).take 32, (numAt x (i + 6) 2 : Nat), (numAt x i 6 : Nat), bytes_take (bytes_drop h.1.2 _) _, by
    have := h.1.1; simp; omega, by omega, by have := numAt_lt h.1.2 (i + 6) 2; omega, by omega, by have := numAt_lt h.1.2 i 6; omega⟩
  else enZ
theorem oneE_addr {x : List Nat} (h : Sc256 x) {i : Nat} (hi : i + 42 ≤ 256) : (oneE x i).addr = (x.drop (i + 8)).take 32 := by unfold oneE; rw [dif_pos ⟨h, hi⟩]
theorem oneE_slot {x : List Nat} (h : Sc256 x) {i : Nat} (hi : i + 42 ≤ 256) : (oneE x i).slot = (numAt x (i + 6) 2 : Nat) := by unfold oneE; rw [dif_pos ⟨h, hi⟩]
theorem oneE_count {x : List Nat} (h : Sc256 x) {i : Nat} (hi : i + 42 ≤ 256) : (oneE x i).count = (numAt x i 6 : Nat) := by unfold oneE; rw [dif_pos ⟨h, hi⟩]
theorem oneE_fit {x : List Nat} (h : Sc256 x) {i : Nat} (hi : i + 42 ≤ 256) : Fit (oneE x i) := by
  unfold Fit
  rw [oneE_count h hi, oneE_slot h hi]
  have h1 := numAt_lt h.2 (i + 6) 2
  have h2 := numAt_lt h.2 i 6
  omega
def padE (x : List Nat) (i : Nat) : Bool := decide (numAt x (i + 40) 2 = 0)
/-- Of what stands there all is told, if the pad is nought. -/
theorem encE_one {x : List Nat} (h : Sc256 x) {i : Nat} (hi : i + 42 ≤ 256) : encE (oneE x i) = (x.drop i).take 42 ↔ padE x i = true := by
  have hl := h.1
  have e1 : (x.drop i).take 42 = (x.drop i).take 6 ++ ((x.drop (i + 6)).take 2 ++ ((x.drop (i + 8)).take 32 ++ (x.drop (i + 40)).take 2)) := by
    have t := fun a b => List.take_add (l := x.drop i) (i := a) (j := b)
    rw [show (42 : Nat) = 6 + 2 + 32 + 2 by rfl, t, t, t]
    simp only [List.drop_drop, List.append_assoc]
  unfold encE
  rw [oneE_addr h hi, oneE_slot h hi, oneE_count h hi, e1]
  simp only [Int.toNat_natCast]
  rw [le_numAt h.2 (by omega), le_numAt h.2 (by omega), List.append_cancel_left_eq, List.append_cancel_left_eq, List.append_cancel_left_eq]
  unfold padE
  rw [decide_eq_true_eq]
  have hp := le_numAt h.2 (i := i + 40) (k := 2) (by omega)
  constructor
  · intro e
    unfold numAt
    rw [← e]; rfl
  · intro e
    rw [← hp, e]; rfl
/-- Bytes of an entry, amid others, are read as it. -/
theorem oneE_at {x P R : List Nat} (h : Sc256 x) {i : Nat} (hi : i + 42 ≤ 256) {e : En} (hx : x = P ++ (encE e ++ R)) (hp : P.length = i) (hf : Fit e) : oneE x i = e ∧ padE x i = true := by
  obtain ⟨f1, f2, f3, f4⟩ := hf
  have d0 : x.drop i = encE e ++ R := by rw [hx, ← hp, List.drop_left]
  have t6 : (x.drop i).take 6 = le 6 e.count.toNat := by
    rw [d0]; unfold encE
    rw [List.append_assoc, List.take_append_of_le_length (by simp), List.take_of_length_le (by simp)]
  have d6 : x.drop (i + 6) = le 2 e.slot.toNat ++ (e.addr ++ [0, 0] ++ R) := by
    rw [← List.drop_drop, d0]; unfold encE
    rw [List.append_assoc, List.drop_append_of_le_length (by simp), List.drop_of_length_le (by simp)]
    simp
  have t8 : (x.drop (i + 6)).take 2 = le 2 e.slot.toNat := by
    rw [d6, List.take_append_of_le_length (by simp), List.take_of_length_le (by simp)]
  have d8 : x.drop (i + 8) = e.addr ++ ([0, 0] ++ R) := by
    rw [show i + 8 = i + 6 + 2 by rfl, ← List.drop_drop, d6, List.drop_append_of_le_length (by simp), List.drop_of_length_le (by simp)]
    simp
  have t40 : (x.drop (i + 8)).take 32 = e.addr := by
    rw [d8, List.take_append_of_le_length (by rw [e.h32]; exact Nat.le_refl _), List.take_of_length_le (by rw [e.h32]; exact Nat.le_refl _)]
  have c1 : numAt x i 6 = e.count.toNat := by
    unfold numAt; rw [t6]; exact leN_le 6 _ (by omega)
  have c2 : numAt x (i + 6) 2 = e.slot.toNat := by
    unfold numAt; rw [t8]; exact leN_le 2 _ (by omega)
  have he : oneE x i = e := by
    refine En.ext ?_ ?_ ?_
    · rw [oneE_addr h hi, t40]
    · rw [oneE_slot h hi, c2]; omega
    · rw [oneE_count h hi, c1]; omega
  refine ⟨he, ?_⟩
  rw [← encE_one h hi, he, d0, List.take_append_of_le_length (by simp), List.take_of_length_le (by simp)]
/-- A sector's six entries. -/
def decE (x : List Nat) : List En := (List.range 6).map fun k => oneE x (42 * k)
@[simp] theorem decE_len (x : List Nat) : (decE x).length = 6 := by simp [decE]
theorem decE_fit {x : List Nat} (h : Sc256 x) : ∀ e ∈ decE x, Fit e := fun e he => by
  unfold decE at he
  rw [List.mem_map] at he
  obtain ⟨k, hk, rfl⟩ := he
  rw [List.mem_range] at hk
  exact oneE_fit h (by omega)
def padsE (x : List Nat) (n : Nat) : Bool := (List.range n).all fun k => padE x (42 * k)
def entOK (x : List Nat) : Bool := holdsN x && padsE x 6
theorem dec_take {x : List Nat} (h : Sc256 x) : ∀ n, n ≤ 6 → (bytesE ((List.range n).map fun k => oneE x (42 * k)) = x.take (42 * n) ↔ padsE x n = true)
  | 0, _ => by simp [bytesE, padsE]
  | n + 1, hn => by
    have ih := dec_take h n (by omega)
    have hl := h.1
    have e1 : x.take (42 * (n + 1)) = x.take (42 * n) ++ (x.drop (42 * n)).take 42 := by
      rw [show 42 * (n + 1) = 42 * n + 42 by omega, List.take_add]
    have hp : padsE x (n + 1) = (padsE x n && padE x (42 * n)) := by
      unfold padsE
      rw [List.range_succ, List.all_append]
      simp
    rw [List.range_succ, List.map_append, List.map_cons, List.map_nil, bytesE_snoc, e1, hp, Bool.and_eq_true, ← ih, ← encE_one h (i := 42 * n) (by omega)]
    constructor
    · intro e
      have hl2 : (bytesE ((List.range n).map fun k => oneE x (42 * k))).length = (x.take (42 * n)).length := by
        rw [bytesE_len]; simp; omega
      exact List.append_inj e hl2
    · rintro ⟨e2, e3⟩
      rw [e2, e3]
theorem secE_eq {l : List En} (h : l.length = 6) : secE l = bytesE l ++ fourN (moreN 0 (bytesE l)) := by
  have hl : (bytesE l).length = 252 := by rw [bytesE_len, h]
  unfold secE sealN
  rw [List.take_of_length_le (by omega), hl]
  simp
/-- What the program asks of a sector is that it is what would be written. -/
theorem entOK_iff {x : List Nat} (h : Sc256 x) : entOK x = true ↔ secE (decE x) = x := by
  have hl := h.1
  have hd := dec_take h 6 (Nat.le_refl _)
  have hdl : (bytesE (decE x)).length = 252 := by rw [bytesE_len, decE_len]
  rw [secE_eq (decE_len x)]
  unfold entOK
  rw [Bool.and_eq_true]
  have hd' : bytesE (decE x) = x.take 252 ↔ padsE x 6 = true := hd
  rw [← hd']
  have hxs : x = x.take 252 ++ x.drop 252 := (List.take_append_drop 252 x).symm
  constructor
  · rintro ⟨h1, h2⟩
    rw [h2]
    unfold holdsN at h1
    rw [hl] at h1
    simp only [Bool.and_eq_true, beq_iff_eq] at h1
    have h6 := h1.2
    rw [show 256 - 4 = 252 by rfl] at h6
    rw [h6, List.take_append_drop]
  · intro e
    have e2 : bytesE (decE x) = x.take 252 := by
      have := congrArg (List.take 252) e
      rwa [List.take_append_of_le_length (by omega), List.take_of_length_le (by omega)] at this
    refine ⟨?_, e2⟩
    rw [← e]
    exact holds_sealed _
theorem nth_at {l : List En} : ∀ {k : Nat} (hk : k < l.length), bytesE l = bytesE (l.take k) ++ (encE l[k] ++ bytesE (l.drop (k + 1))) := fun {k} hk => by
  rw [← bytesE_cons, ← List.drop_eq_getElem_cons hk, ← bytesE_app, List.take_append_drop]
theorem decE_secE {l : List En} (h : l.length = 6) (hf : ∀ e ∈ l, Fit e) : decE (secE l) = l := by
  refine List.ext_getElem (by simp [h]) fun k h1 h2 => ?_
  have hk : k < 6 := by simpa using h1
  have hg : (decE (secE l))[k] = oneE (secE l) (42 * k) := by simp [decE]
  refine Eq.trans hg ?_
  refine (oneE_at (secE_sec l) (by omega) (P := bytesE (l.take k)) (R := bytesE (l.drop (k + 1)) ++ fourN (moreN 0 (bytesE l))) ?_ (by rw [bytesE_len, List.length_take]; omega) (hf _ (List.getElem_mem h2))).1
  rw [secE_eq h]
  have hn := nth_at h2
  obtain ⟨F, hF⟩ : ∃ F, F = fourN (moreN 0 (bytesE l)) := ⟨_, rfl⟩
  rw [← hF, hn]
  simp only [List.append_assoc]
/-- Places as sectors, six each. -/
def secsE (L : List En) : List (List Nat) := (List.range (L.length / 6)).map fun i => secE ((L.drop (6 * i)).take 6)
@[simp] theorem secsE_len (L : List En) : (secsE L).length = L.length / 6 := by simp [secsE]
theorem secsE_sec (L : List En) : ∀ x ∈ secsE L, Sc256 x := fun x hx => by
  unfold secsE at hx
  rw [List.mem_map] at hx
  obtain ⟨i, _, rfl⟩ := hx
  exact secE_sec _
theorem secsE_cons {L M : List En} (h : L.length = 6) : secsE (L ++ M) = secE L :: secsE M := by
  unfold secsE
  have e : (L ++ M).length / 6 = M.length / 6 + 1 := by rw [List.length_append, h]; omega
  rw [e, List.range_succ_eq_map, List.map_cons, List.map_map]
  congr 1
  · rw [Nat.mul_zero, List.drop_zero, List.take_append_of_le_length (by omega), List.take_of_length_le (by omega)]
  · refine List.map_congr_left fun i hi => ?_
    show secE (((L ++ M).drop (6 * (i + 1))).take 6) = _
    rw [List.drop_append, List.drop_of_length_le (by omega), List.nil_append, h, show 6 * (i + 1) - 6 = 6 * i by omega]
/-- The places that sectors are. -/
def placesE (X : List (List Nat)) : List En := (X.map decE).flatten
theorem placesE_len : ∀ X, (placesE X).length = 6 * X.length
  | [] => rfl
  | x :: X => by
    have := placesE_len X
    unfold placesE at this ⊢
    simp only [List.map_cons, List.flatten_cons, List.length_append, decE_len, List.length_cons, this]
    omega
theorem placesE_cons (x : List Nat) (X : List (List Nat)) : placesE (x :: X) = decE x ++ placesE X := rfl
theorem placesE_snoc (X : List (List Nat)) (x : List Nat) : placesE (X ++ [x]) = placesE X ++ decE x := by simp [placesE]
theorem placesE_fit : ∀ {X : List (List Nat)}, (∀ x ∈ X, Sc256 x) → ∀ e ∈ placesE X, Fit e
  | [], _, e, he => by cases he
  | x :: X, h, e, he => by
    rw [placesE_cons, List.mem_append] at he
    rcases he with he | he
    · exact decE_fit (h x (by simp)) e he
    · exact placesE_fit (fun y hy => h y (by simp [hy])) e he
theorem secsE_places : ∀ {X : List (List Nat)}, (∀ x ∈ X, Sc256 x) → (secsE (placesE X) = X ↔ ∀ x ∈ X, entOK x = true)
  | [], _ => by simp [placesE, secsE]
  | x :: X, h => by
    have ih := secsE_places (X := X) fun y hy => h y (by simp [hy])
    rw [placesE_cons, secsE_cons (decE_len x), List.cons.injEq, ih, ← entOK_iff (h x (by simp))]
    simp
theorem places_secsE : ∀ (n : Nat) {L : List En}, L.length = 6 * n → (∀ e ∈ L, Fit e) → placesE (secsE L) = L
  | 0, L, hl, _ => by
    have : L = [] := List.eq_nil_of_length_eq_zero (by omega)
    subst this; rfl
  | n + 1, L, hl, hf => by
    have h6 : (L.take 6).length = 6 := by simp; omega
    conv => lhs; rw [← List.take_append_drop 6 L]
    rw [secsE_cons h6, placesE_cons, decE_secE h6 (fun e he => hf e (List.mem_of_mem_take he)), places_secsE n (by simp; omega) (fun e he => hf e (List.mem_of_mem_drop he)), List.take_append_drop]
theorem secsE_inj {n : Nat} {L M : List En} (hl : L.length = 6 * n) (hm : M.length = 6 * n) (hL : ∀ e ∈ L, Fit e) (hM : ∀ e ∈ M, Fit e) (h : secsE L = secsE M) : L = M := by
  rw [← places_secsE n hl hL, h, places_secsE n hm hM]
end Go.Proofs.Ytilgdnbijkcboaa

/- Abstract programs; that they are the program's. -/
namespace Go.Proofs.Ytilgdnbijkcboaa
open Go AVL
set_option linter.unusedVariables false
set_option maxRecDepth 20000

def q_shelf_Put_0 : List AOper := [
  ⟨(some 2), (.mv (.v .nilS)), none⟩,
  ⟨(some 3), (.mv (.v (.int .i64 0))), none⟩]
def q_shelf_Put_1 : List AOper := [
  ⟨(some 6), (.mv (.t 0)), none⟩,
  ⟨(some 7), (.xx (.p (.isNil .ptr false)) [(.t 6)]), none⟩,
  ⟨(some 8), (.mv (.t 7)), none⟩,
  ⟨(some 9), (.mv (.t 0)), (some (8, false))⟩,
  ⟨(some 10), (.call F_Ptable_Table_Size [(.sc, (.t 9))]), (some (8, false))⟩,
  ⟨(some 11), (.bin .rem (.t 10) (.v (.int .i64 6))), (some (8, false))⟩,
  ⟨(some 12), (.eq .scI true (.t 11) (.v (.int .i64 0))), (some (8, false))⟩,
  ⟨(some 13), (.pick (.t 8) (.v (.bool true)) (.t 12)), none⟩]
def q_shelf_Put_2 : List AOper := [
  ⟨(some 2), (.mv (.v .nilS)), none⟩,
  ⟨(some 3), (.mv (.v (.int .i64 1))), none⟩]
def q_shelf_Put_3 : List AOper := [
  ⟨(some 4), (.mv (.v .nilS)), none⟩]
def q_shelf_Put_4 : List AOper := [
  ⟨(some 14), (.mv (.t 0)), none⟩,
  ⟨(some 15), (.call F_Ptable_Table_Places [(.sc, (.t 14))]), none⟩,
  ⟨(some 5), (.mv (.t 15)), none⟩]
def q_shelf_Put_5 : List AOper := [
  ⟨(some 16), (.mv (.t 5)), none⟩,
  ⟨(some 17), (.len false (.t 16)), none⟩,
  ⟨(some 18), (.bin .gtr (.t 17) (.v (.int .i64 0))), none⟩]
def q_shelf_Put_6 : List AOper := [
  ⟨(some 21), (.mv (.t 4)), none⟩,
  ⟨(some 22), (.mv (.t 5)), none⟩,
  ⟨(some 23), (.slc 34 (.t 22) none (some (.v (.int .i64 6)))), none⟩,
  ⟨(some 24), (.call F_shelf_sector [(.sc, (.t 23))]), none⟩,
  ⟨(some 25), (.bsl 54 (.ia .u8 256) 256 [(.t 24)]), none⟩,
  ⟨(some 26), (.app 54 256 256 (.t 21) (.t 25)), none⟩,
  ⟨(some 4), (.mv (.t 26)), none⟩]
def q_shelf_Put_7 : List AOper := [
  ⟨(some 19), (.mv (.t 5)), none⟩,
  ⟨(some 20), (.slc 34 (.t 19) (some (.v (.int .i64 6))) none), none⟩,
  ⟨(some 5), (.mv (.t 20)), none⟩]
def q_shelf_Put_L8 : ACode := (.seq (.seq (.region q_shelf_Put_5) (.cond (.t 18) .skip (.exit 0))) (.seq (.block 1 (.region q_shelf_Put_6)) (.region q_shelf_Put_7)))
def q_shelf_Put_8 : List AOper := [
  ⟨(some 27), (.mv (.t 4)), none⟩,
  ⟨(some 2), (.mv (.t 27)), none⟩,
  ⟨(some 3), (.mv (.v (.int .i64 0))), none⟩]
def a_shelf_Put : AFunc := ⟨[(.tmp 2), (.tmp 3)], (.seq (.region q_shelf_Put_0) (.seq (.seq (.region q_shelf_Put_1) (.cond (.t 13) (.seq (.region q_shelf_Put_2) .ret) .skip)) (.seq (.region q_shelf_Put_3) (.seq (.seq (.region q_shelf_Put_4) (.block 0 (.loop q_shelf_Put_L8))) (.seq (.region q_shelf_Put_8) .ret)))))⟩

def q_shelf_Changes_0 : List AOper := [
  ⟨(some 4), (.mv (.v .nilS)), none⟩,
  ⟨(some 5), (.mv (.v (.int .i64 0))), none⟩]
def q_shelf_Changes_1 : List AOper := [
  ⟨(some 12), (.mv (.t 0)), none⟩,
  ⟨(some 13), (.call F_shelf_Put [(.sc, (.t 12))]), none⟩,
  ⟨(some 11), (.mv (.t 13)), none⟩,
  ⟨(some 14), (.ext 0 (.t 11)), none⟩,
  ⟨(some 15), (.ext 1 (.t 11)), none⟩,
  ⟨(some 6), (.mv (.t 14)), none⟩,
  ⟨(some 7), (.mv (.t 15)), none⟩]
def q_shelf_Changes_2 : List AOper := [
  ⟨(some 16), (.mv (.t 7)), none⟩,
  ⟨(some 17), (.eq .scI true (.t 16) (.v (.int .i64 0))), none⟩]
def q_shelf_Changes_3 : List AOper := [
  ⟨(some 18), (.mv (.t 7)), none⟩,
  ⟨(some 4), (.mv (.v .nilS)), none⟩,
  ⟨(some 5), (.mv (.t 18)), none⟩]
def q_shelf_Changes_4 : List AOper := [
  ⟨(some 8), (.mv (.v .nilS)), none⟩]
def q_shelf_Changes_5 : List AOper := [
  ⟨(some 19), (.mv (.t 6)), none⟩,
  ⟨(some 20), (.len false (.t 19)), none⟩,
  ⟨(some 21), (.mv (.v (.int .i64 0))), none⟩]
def q_shelf_Changes_6 : List AOper := [
  ⟨(some 22), (.bin .lss (.t 21) (.t 20)), none⟩]
def q_shelf_Changes_7 : List AOper := [
  ⟨(some 23), (.mv (.t 21)), none⟩,
  ⟨(some 24), (.idx 256 (.t 19) (.t 21)), none⟩,
  ⟨(some 25), (.load (.ia .u8 256) 256 (.t 24)), none⟩,
  ⟨(some 10), (.alloc 54 [(.iarr .u8 256 (List.replicate 256 0))]), none⟩,
  ⟨(some 9), (.mv (.t 23)), none⟩,
  ⟨none, (.store (.ia .u8 256) 256 (.t 10) (.t 25)), none⟩]
def q_shelf_Changes_8 : List AOper := [
  ⟨(some 26), (.mv (.t 8)), none⟩,
  ⟨(some 27), (.mv (.t 1)), none⟩,
  ⟨(some 28), (.mv (.t 9)), none⟩,
  ⟨(some 29), (.bin .add (.t 27) (.t 28)), none⟩,
  ⟨(some 30), (.load (.ia .u8 256) 256 (.t 10)), none⟩,
  ⟨(some 31), (.build .ag [(.int .i64 0), (.iarr .u8 256 (List.replicate 256 0))] [(0, (1, (.t 29))), (1, (256, (.t 30)))]), none⟩,
  ⟨(some 32), (.bsl 99 .ag 257 [(.t 31)]), none⟩,
  ⟨(some 33), (.app 99 257 264 (.t 26) (.t 32)), none⟩,
  ⟨(some 8), (.mv (.t 33)), none⟩]
def q_shelf_Changes_9 : List AOper := [
  ⟨(some 34), (.bin .add (.t 21) (.v (.int .i64 1))), none⟩,
  ⟨(some 21), (.mv (.t 34)), none⟩]
def q_shelf_Changes_L10 : ACode := (.seq (.region q_shelf_Changes_6) (.seq (.cond (.t 22) .skip (.exit 0)) (.seq (.block 1 (.seq (.region q_shelf_Changes_7) (.region q_shelf_Changes_8))) (.region q_shelf_Changes_9))))
def q_shelf_Changes_10 : List AOper := [
  ⟨(some 35), (.mv (.t 8)), none⟩,
  ⟨(some 4), (.mv (.t 35)), none⟩,
  ⟨(some 5), (.mv (.v (.int .i64 0))), none⟩]
def a_shelf_Changes : AFunc := ⟨[(.tmp 4), (.tmp 5)], (.seq (.region q_shelf_Changes_0) (.seq (.region q_shelf_Changes_1) (.seq (.seq (.region q_shelf_Changes_2) (.cond (.t 17) (.seq (.region q_shelf_Changes_3) .ret) .skip)) (.seq (.region q_shelf_Changes_4) (.seq (.seq (.region q_shelf_Changes_5) (.block 0 (.loop q_shelf_Changes_L10))) (.seq (.region q_shelf_Changes_10) .ret))))))⟩

def q_shelf_Get_0 : List AOper := [
  ⟨(some 2), (.mv (.v .nilP)), none⟩,
  ⟨(some 3), (.mv (.v (.int .i64 0))), none⟩]
def q_shelf_Get_1 : List AOper := [
  ⟨(some 11), (.mv (.t 0)), none⟩,
  ⟨(some 12), (.len false (.t 11)), none⟩,
  ⟨(some 13), (.bin .lss (.t 12) (.v (.int .i64 1))), none⟩,
  ⟨(some 14), (.mv (.t 13)), none⟩,
  ⟨(some 15), (.mv (.t 0)), (some (14, false))⟩,
  ⟨(some 16), (.len false (.t 15)), (some (14, false))⟩,
  ⟨(some 17), (.bin .gtr (.t 16) (.v (.int .i64 67))), (some (14, false))⟩,
  ⟨(some 18), (.pick (.t 14) (.v (.bool true)) (.t 17)), none⟩]
def q_shelf_Get_2 : List AOper := [
  ⟨(some 2), (.mv (.v .nilP)), none⟩,
  ⟨(some 3), (.mv (.v (.int .i64 2))), none⟩]
def q_shelf_Get_3 : List AOper := [
  ⟨(some 4), (.mv (.v .nilS)), none⟩]
def q_shelf_Get_4 : List AOper := [
  ⟨(some 19), (.mv (.t 0)), none⟩,
  ⟨(some 20), (.len false (.t 19)), none⟩,
  ⟨(some 21), (.mv (.v (.int .i64 0))), none⟩]
def q_shelf_Get_5 : List AOper := [
  ⟨(some 22), (.bin .lss (.t 21) (.t 20)), none⟩]
def q_shelf_Get_6 : List AOper := [
  ⟨(some 23), (.idx 256 (.t 19) (.t 21)), none⟩,
  ⟨(some 24), (.load (.ia .u8 256) 256 (.t 23)), none⟩,
  ⟨(some 6), (.alloc 54 [(.iarr .u8 256 (List.replicate 256 0))]), none⟩,
  ⟨none, (.store (.ia .u8 256) 256 (.t 6) (.t 24)), none⟩]
def q_shelf_Get_7 : List AOper := [
  ⟨(some 26), (.load (.ia .u8 256) 256 (.t 6)), none⟩,
  ⟨(some 27), (.call F_shelf_entries [((.ia .u8 256), (.t 26))]), none⟩,
  ⟨(some 25), (.mv (.t 27)), none⟩,
  ⟨(some 28), (.ext 0 (.t 25)), none⟩,
  ⟨(some 29), (.ext 1 (.t 25)), none⟩,
  ⟨(some 7), (.mv (.t 28)), none⟩,
  ⟨(some 8), (.mv (.t 29)), none⟩]
def q_shelf_Get_8 : List AOper := [
  ⟨(some 30), (.mv (.t 8)), none⟩,
  ⟨(some 31), (.un .not (.t 30)), none⟩]
def q_shelf_Get_9 : List AOper := [
  ⟨(some 2), (.mv (.v .nilP)), none⟩,
  ⟨(some 3), (.mv (.v (.int .i64 5))), none⟩]
def q_shelf_Get_10 : List AOper := [
  ⟨(some 32), (.mv (.t 4)), none⟩,
  ⟨(some 33), (.mv (.t 7)), none⟩,
  ⟨(some 34), (.app 32 34 48 (.t 32) (.t 33)), none⟩,
  ⟨(some 4), (.mv (.t 34)), none⟩]
def q_shelf_Get_11 : List AOper := [
  ⟨(some 35), (.bin .add (.t 21) (.v (.int .i64 1))), none⟩,
  ⟨(some 21), (.mv (.t 35)), none⟩]
def q_shelf_Get_L12 : ACode := (.seq (.region q_shelf_Get_5) (.seq (.cond (.t 22) .skip (.exit 0)) (.seq (.block 1 (.seq (.region q_shelf_Get_6) (.seq (.region q_shelf_Get_7) (.seq (.seq (.region q_shelf_Get_8) (.cond (.t 31) (.seq (.region q_shelf_Get_9) .ret) .skip)) (.region q_shelf_Get_10))))) (.region q_shelf_Get_11))))
def q_shelf_Get_12 : List AOper := [
  ⟨(some 37), (.mv (.t 4)), none⟩,
  ⟨(some 38), (.call F_table_Of [(.sc, (.t 37))]), none⟩,
  ⟨(some 36), (.mv (.t 38)), none⟩,
  ⟨(some 39), (.ext 0 (.t 36)), none⟩,
  ⟨(some 40), (.ext 1 (.t 36)), none⟩,
  ⟨(some 9), (.mv (.t 39)), none⟩,
  ⟨(some 10), (.mv (.t 40)), none⟩]
def q_shelf_Get_13 : List AOper := [
  ⟨(some 41), (.mv (.t 10)), none⟩,
  ⟨(some 42), (.un .not (.t 41)), none⟩]
def q_shelf_Get_14 : List AOper := [
  ⟨(some 2), (.mv (.v .nilP)), none⟩,
  ⟨(some 3), (.mv (.v (.int .i64 5))), none⟩]
def q_shelf_Get_15 : List AOper := [
  ⟨(some 43), (.mv (.t 9)), none⟩,
  ⟨(some 2), (.mv (.t 43)), none⟩,
  ⟨(some 3), (.mv (.v (.int .i64 0))), none⟩]
def a_shelf_Get : AFunc := ⟨[(.tmp 2), (.tmp 3)], (.seq (.region q_shelf_Get_0) (.seq (.seq (.region q_shelf_Get_1) (.cond (.t 18) (.seq (.region q_shelf_Get_2) .ret) .skip)) (.seq (.region q_shelf_Get_3) (.seq (.seq (.region q_shelf_Get_4) (.block 0 (.loop q_shelf_Get_L12))) (.seq (.region q_shelf_Get_12) (.seq (.seq (.region q_shelf_Get_13) (.cond (.t 42) (.seq (.region q_shelf_Get_14) .ret) .skip)) (.seq (.region q_shelf_Get_15) .ret)))))))⟩

def q_shelf_sector_0 : List AOper := [
  ⟨(some 2), (.alloc 54 [(.iarr .u8 256 (List.replicate 256 0))]), none⟩]
def q_shelf_sector_1 : List AOper := [
  ⟨(some 3), (.mv (.v .nilS)), none⟩]
def q_shelf_sector_2 : List AOper := [
  ⟨(some 7), (.mv (.t 0)), none⟩,
  ⟨(some 8), (.len false (.t 7)), none⟩,
  ⟨(some 9), (.mv (.v (.int .i64 0))), none⟩]
def q_shelf_sector_3 : List AOper := [
  ⟨(some 10), (.bin .lss (.t 9) (.t 8)), none⟩]
def q_shelf_sector_4 : List AOper := [
  ⟨(some 11), (.idx 34 (.t 7) (.t 9)), none⟩,
  ⟨(some 12), (.load .ag 34 (.t 11)), none⟩,
  ⟨(some 5), (.alloc 32 [(.iarr .u8 32 (List.replicate 32 0)), (.int .i64 0), (.int .i64 0)]), none⟩,
  ⟨none, (.store .ag 34 (.t 5) (.t 12)), none⟩]
def q_shelf_sector_5 : List AOper := [
  ⟨(some 13), (.mv (.t 3)), none⟩,
  ⟨(some 14), (.load .ag 34 (.t 5)), none⟩,
  ⟨(some 15), (.call F_shelf_entry [(.ag, (.t 14))]), none⟩,
  ⟨(some 16), (.appI 5 .u8 1 (.t 13) (.t 15)), none⟩,
  ⟨(some 3), (.mv (.t 16)), none⟩]
def q_shelf_sector_6 : List AOper := [
  ⟨(some 17), (.bin .add (.t 9) (.v (.int .i64 1))), none⟩,
  ⟨(some 9), (.mv (.t 17)), none⟩]
def q_shelf_sector_L7 : ACode := (.seq (.region q_shelf_sector_3) (.seq (.cond (.t 10) .skip (.exit 0)) (.seq (.block 1 (.seq (.region q_shelf_sector_4) (.region q_shelf_sector_5))) (.region q_shelf_sector_6))))
def q_shelf_sector_7 : List AOper := [
  ⟨(some 18), (.mv (.t 3)), none⟩,
  ⟨(some 19), (.call F_word_Whole [(.sc, (.t 18))]), none⟩,
  ⟨(some 6), (.alloc 54 [(.iarr .u8 256 (List.replicate 256 0))]), none⟩,
  ⟨none, (.store (.ia .u8 256) 256 (.t 6) (.t 19)), none⟩]
def q_shelf_sector_8 : List AOper := [
  ⟨(some 20), (.slcA 256 (.t 6) none (some (.v (.int .i64 252)))), none⟩,
  ⟨(some 21), (.call F_crc_Sealed [(.sc, (.t 20))]), none⟩,
  ⟨(some 22), (.call F_word_Whole [(.sc, (.t 21))]), none⟩,
  ⟨none, (.store (.ia .u8 256) 256 (.t 2) (.t 22)), none⟩]
def a_shelf_sector : AFunc := ⟨[(.cell 2 (.ia .u8 256) 256)], (.seq (.region q_shelf_sector_0) (.seq (.region q_shelf_sector_1) (.seq (.seq (.region q_shelf_sector_2) (.block 0 (.loop q_shelf_sector_L7))) (.seq (.region q_shelf_sector_7) (.seq (.region q_shelf_sector_8) .ret)))))⟩

def q_shelf_entries_0 : List AOper := [
  ⟨(some 1), (.box 54 (.ia .u8 256) (.t 0)), none⟩,
  ⟨(some 2), (.mv (.v .nilS)), none⟩,
  ⟨(some 3), (.mv (.v (.bool false))), none⟩]
def q_shelf_entries_1 : List AOper := [
  ⟨(some 8), (.slcA 256 (.t 1) none none), none⟩,
  ⟨(some 9), (.call F_crc_Holds [(.sc, (.t 8))]), none⟩,
  ⟨(some 10), (.un .not (.t 9)), none⟩]
def q_shelf_entries_2 : List AOper := [
  ⟨(some 2), (.mv (.v .nilS)), none⟩,
  ⟨(some 3), (.mv (.v (.bool false))), none⟩]
def q_shelf_entries_3 : List AOper := [
  ⟨(some 4), (.mv (.v .nilS)), none⟩]
def q_shelf_entries_4 : List AOper := [
  ⟨(some 11), (.slcA 256 (.t 1) none (some (.v (.int .i64 252)))), none⟩,
  ⟨(some 12), (.call F_word_From [(.sc, (.t 11))]), none⟩,
  ⟨(some 5), (.mv (.t 12)), none⟩]
def q_shelf_entries_5 : List AOper := [
  ⟨(some 13), (.mv (.v (.int .i64 0))), none⟩]
def q_shelf_entries_6 : List AOper := [
  ⟨(some 14), (.bin .lss (.t 13) (.v (.int .i64 6))), none⟩]
def q_shelf_entries_7 : List AOper := [
  ⟨(some 15), (.mv (.t 5)), none⟩,
  ⟨(some 16), (.call F_Pword_Cursor_Num [(.sc, (.t 15)), (.sc, (.v (.int .i64 6)))]), none⟩,
  ⟨(some 6), (.mv (.t 16)), none⟩]
def q_shelf_entries_8 : List AOper := [
  ⟨(some 17), (.mv (.t 6)), none⟩,
  ⟨(some 18), (.conv .i64 (.t 17)), none⟩,
  ⟨(some 19), (.mv (.t 5)), none⟩,
  ⟨(some 20), (.call F_Pword_Cursor_Num [(.sc, (.t 19)), (.sc, (.v (.int .i64 2)))]), none⟩,
  ⟨(some 21), (.conv .i64 (.t 20)), none⟩,
  ⟨(some 22), (.mv (.t 5)), none⟩,
  ⟨(some 23), (.call F_Pword_Cursor_Bytes [(.sc, (.t 22)), (.sc, (.v (.int .i64 32)))]), none⟩,
  ⟨(some 24), (.s2a 32 (.t 23)), none⟩,
  ⟨(some 25), (.load (.ia .u8 32) 32 (.t 24)), none⟩,
  ⟨(some 26), (.build .ag [(.iarr .u8 32 (List.replicate 32 0)), (.int .i64 0), (.int .i64 0)] [(33, (1, (.t 18))), (32, (1, (.t 21))), (0, (32, (.t 25)))]), none⟩,
  ⟨(some 7), (.alloc 32 [(.iarr .u8 32 (List.replicate 32 0)), (.int .i64 0), (.int .i64 0)]), none⟩,
  ⟨none, (.store .ag 34 (.t 7) (.t 26)), none⟩]
def q_shelf_entries_9 : List AOper := [
  ⟨(some 27), (.mv (.t 5)), none⟩,
  ⟨(some 28), (.call F_Pword_Cursor_Num [(.sc, (.t 27)), (.sc, (.v (.int .i64 2)))]), none⟩,
  ⟨(some 29), (.eq .scI true (.t 28) (.v (.int .u64 0))), none⟩]
def q_shelf_entries_10 : List AOper := [
  ⟨(some 2), (.mv (.v .nilS)), none⟩,
  ⟨(some 3), (.mv (.v (.bool false))), none⟩]
def q_shelf_entries_11 : List AOper := [
  ⟨(some 30), (.mv (.t 4)), none⟩,
  ⟨(some 31), (.load .ag 34 (.t 7)), none⟩,
  ⟨(some 32), (.bsl 32 .ag 34 [(.t 31)]), none⟩,
  ⟨(some 33), (.app 32 34 48 (.t 30) (.t 32)), none⟩,
  ⟨(some 4), (.mv (.t 33)), none⟩]
def q_shelf_entries_12 : List AOper := [
  ⟨(some 34), (.bin .add (.t 13) (.v (.int .i64 1))), none⟩,
  ⟨(some 13), (.mv (.t 34)), none⟩]
def q_shelf_entries_L13 : ACode := (.seq (.region q_shelf_entries_6) (.seq (.cond (.t 14) .skip (.exit 0)) (.seq (.block 1 (.seq (.region q_shelf_entries_7) (.seq (.region q_shelf_entries_8) (.seq (.seq (.region q_shelf_entries_9) (.cond (.t 29) (.seq (.region q_shelf_entries_10) .ret) .skip)) (.region q_shelf_entries_11))))) (.region q_shelf_entries_12))))
def q_shelf_entries_13 : List AOper := [
  ⟨(some 35), (.mv (.t 4)), none⟩,
  ⟨(some 36), (.mv (.t 5)), none⟩,
  ⟨(some 37), (.call F_Pword_Cursor_Rest [(.sc, (.t 36))]), none⟩,
  ⟨(some 2), (.mv (.t 35)), none⟩,
  ⟨(some 3), (.mv (.t 37)), none⟩]
def a_shelf_entries : AFunc := ⟨[(.tmp 2), (.tmp 3)], (.seq (.region q_shelf_entries_0) (.seq (.seq (.region q_shelf_entries_1) (.cond (.t 10) (.seq (.region q_shelf_entries_2) .ret) .skip)) (.seq (.region q_shelf_entries_3) (.seq (.region q_shelf_entries_4) (.seq (.seq (.region q_shelf_entries_5) (.block 0 (.loop q_shelf_entries_L13))) (.seq (.region q_shelf_entries_13) .ret))))))⟩

def q_shelf_entry_0 : List AOper := [
  ⟨(some 1), (.box 32 .ag (.t 0)), none⟩,
  ⟨(some 2), (.mv (.v .nilS)), none⟩]
def q_shelf_entry_1 : List DOp := [
  ⟨⟨(some 4), (.fadr 33 1 .sc (.t 1)), none⟩, true, false, none, []⟩,
  ⟨⟨(some 5), (.load .sc 1 (.t 4)), none⟩, true, false, none, []⟩,
  ⟨⟨(some 6), (.conv .u64 (.t 5)), none⟩, true, false, none, []⟩,
  ⟨⟨(some 8), (.fadr 32 1 .sc (.t 1)), none⟩, true, false, none, []⟩,
  ⟨⟨(some 9), (.load .sc 1 (.t 8)), none⟩, true, false, none, []⟩,
  ⟨⟨(some 10), (.conv .u64 (.t 9)), none⟩, true, false, none, []⟩,
  ⟨⟨(some 7), (.call F_word_Put [(.sc, (.t 6)), (.sc, (.v (.int .i64 6)))]), none⟩, false, true, (some [8]), []⟩,
  ⟨⟨(some 11), (.call F_word_Put [(.sc, (.t 10)), (.sc, (.v (.int .i64 2)))]), none⟩, false, false, none, []⟩,
  ⟨⟨(some 12), (.appI 5 .u8 1 (.t 7) (.t 11)), none⟩, false, false, none, []⟩,
  ⟨⟨(some 3), (.mv (.t 12)), none⟩, true, false, none, []⟩]
def q_shelf_entry_2 : List AOper := [
  ⟨(some 13), (.mv (.t 3)), none⟩,
  ⟨(some 14), (.fadr 0 32 (.ia .u8 32) (.t 1)), none⟩,
  ⟨(some 15), (.slcA 32 (.t 14) none none), none⟩,
  ⟨(some 16), (.appI 5 .u8 1 (.t 13) (.t 15)), none⟩,
  ⟨(some 3), (.mv (.t 16)), none⟩]
def q_shelf_entry_3 : List AOper := [
  ⟨(some 17), (.mv (.t 3)), none⟩,
  ⟨(some 18), (.bslI 5 .u8 [(.v (.int .u8 0)), (.v (.int .u8 0))]), none⟩,
  ⟨(some 19), (.appI 5 .u8 1 (.t 17) (.t 18)), none⟩,
  ⟨(some 2), (.mv (.t 19)), none⟩]
def a_shelf_entry : AFunc := ⟨[(.tmp 2)], (.seq (.region q_shelf_entry_0) (.seq (.regionD q_shelf_entry_1) (.seq (.region q_shelf_entry_2) (.seq (.region q_shelf_entry_3) .ret))))⟩

def q_ref12_Sectors_0 : List AOper := [
  ⟨(some 2), (.mv (.v .nilS)), none⟩]
def q_ref12_Sectors_1 : List AOper := [
  ⟨(some 3), (.mv (.v .nilS)), none⟩]
def q_ref12_Sectors_2 : List AOper := [
  ⟨(some 4), (.mv (.v .nilS)), none⟩]
def q_ref12_Sectors_3 : List AOper := [
  ⟨(some 5), (.mv (.v (.int .i64 0))), none⟩]
def q_ref12_Sectors_4 : List AOper := [
  ⟨(some 7), (.mv (.t 5)), none⟩,
  ⟨(some 8), (.mv (.t 0)), none⟩,
  ⟨(some 9), (.len false (.t 8)), none⟩,
  ⟨(some 10), (.bin .lss (.t 7) (.t 9)), none⟩]
def q_ref12_Sectors_5 : List AOper := [
  ⟨(some 13), (.mv (.t 4)), none⟩,
  ⟨(some 14), (.mv (.t 0)), none⟩,
  ⟨(some 15), (.mv (.t 5)), none⟩,
  ⟨(some 16), (.idx 34 (.t 14) (.t 15)), none⟩,
  ⟨(some 17), (.fadr 33 1 .sc (.t 16)), none⟩,
  ⟨(some 18), (.load .sc 1 (.t 17)), none⟩,
  ⟨(some 19), (.conv .u64 (.t 18)), none⟩,
  ⟨(some 20), (.call F_ref01_Put [(.sc, (.t 19)), (.sc, (.v (.int .i64 6)))]), none⟩,
  ⟨(some 21), (.appI 5 .u8 1 (.t 13) (.t 20)), none⟩,
  ⟨(some 4), (.mv (.t 21)), none⟩]
def q_ref12_Sectors_6 : List AOper := [
  ⟨(some 22), (.mv (.t 4)), none⟩,
  ⟨(some 23), (.mv (.t 0)), none⟩,
  ⟨(some 24), (.mv (.t 5)), none⟩,
  ⟨(some 25), (.idx 34 (.t 23) (.t 24)), none⟩,
  ⟨(some 26), (.fadr 32 1 .sc (.t 25)), none⟩,
  ⟨(some 27), (.load .sc 1 (.t 26)), none⟩,
  ⟨(some 28), (.conv .u64 (.t 27)), none⟩,
  ⟨(some 29), (.call F_ref01_Put [(.sc, (.t 28)), (.sc, (.v (.int .i64 2)))]), none⟩,
  ⟨(some 30), (.appI 5 .u8 1 (.t 22) (.t 29)), none⟩,
  ⟨(some 4), (.mv (.t 30)), none⟩]
def q_ref12_Sectors_7 : List AOper := [
  ⟨(some 6), (.mv (.v (.int .i64 0))), none⟩]
def q_ref12_Sectors_8 : List AOper := [
  ⟨(some 31), (.mv (.t 6)), none⟩,
  ⟨(some 32), (.bin .lss (.t 31) (.v (.int .i64 32))), none⟩]
def q_ref12_Sectors_9 : List AOper := [
  ⟨(some 35), (.mv (.t 4)), none⟩,
  ⟨(some 36), (.mv (.t 0)), none⟩,
  ⟨(some 37), (.mv (.t 5)), none⟩,
  ⟨(some 38), (.mv (.t 6)), none⟩,
  ⟨(some 39), (.idx 34 (.t 36) (.t 37)), none⟩,
  ⟨(some 40), (.fadr 0 32 (.ia .u8 32) (.t 39)), none⟩,
  ⟨(some 41), (.idxA 32 1 true (.t 40) (.t 38)), none⟩,
  ⟨(some 42), (.load .sc 1 (.t 41)), none⟩,
  ⟨(some 43), (.bslI 5 .u8 [(.t 42)]), none⟩,
  ⟨(some 44), (.appI 5 .u8 1 (.t 35) (.t 43)), none⟩,
  ⟨(some 4), (.mv (.t 44)), none⟩]
def q_ref12_Sectors_10 : List AOper := [
  ⟨(some 33), (.mv (.t 6)), none⟩,
  ⟨(some 34), (.bin .add (.t 33) (.v (.int .i64 1))), none⟩,
  ⟨(some 6), (.mv (.t 34)), none⟩]
def q_ref12_Sectors_L11 : ACode := (.seq (.seq (.region q_ref12_Sectors_8) (.cond (.t 32) .skip (.exit 2))) (.seq (.block 3 (.region q_ref12_Sectors_9)) (.region q_ref12_Sectors_10)))
def q_ref12_Sectors_11 : List AOper := [
  ⟨(some 45), (.mv (.t 4)), none⟩,
  ⟨(some 46), (.bslI 5 .u8 [(.v (.int .u8 0)), (.v (.int .u8 0))]), none⟩,
  ⟨(some 47), (.appI 5 .u8 1 (.t 45) (.t 46)), none⟩,
  ⟨(some 4), (.mv (.t 47)), none⟩]
def q_ref12_Sectors_12 : List AOper := [
  ⟨(some 48), (.mv (.t 5)), none⟩,
  ⟨(some 49), (.bin .rem (.t 48) (.v (.int .i64 6))), none⟩,
  ⟨(some 50), (.eq .scI false (.t 49) (.v (.int .i64 5))), none⟩]
def q_ref12_Sectors_13 : List AOper := [
  ⟨(some 51), (.mv (.t 3)), none⟩,
  ⟨(some 52), (.mv (.t 4)), none⟩,
  ⟨(some 53), (.call F_ref08_Sealed [(.sc, (.t 52))]), none⟩,
  ⟨(some 54), (.bsl 54 (.ia .u8 256) 256 [(.t 53)]), none⟩,
  ⟨(some 55), (.app 54 256 256 (.t 51) (.t 54)), none⟩,
  ⟨(some 3), (.mv (.t 55)), none⟩]
def q_ref12_Sectors_14 : List AOper := [
  ⟨(some 4), (.mv (.v .nilS)), none⟩]
def q_ref12_Sectors_15 : List AOper := [
  ⟨(some 11), (.mv (.t 5)), none⟩,
  ⟨(some 12), (.bin .add (.t 11) (.v (.int .i64 1))), none⟩,
  ⟨(some 5), (.mv (.t 12)), none⟩]
def q_ref12_Sectors_L16 : ACode := (.seq (.seq (.region q_ref12_Sectors_4) (.cond (.t 10) .skip (.exit 0))) (.seq (.block 1 (.seq (.region q_ref12_Sectors_5) (.seq (.region q_ref12_Sectors_6) (.seq (.seq (.region q_ref12_Sectors_7) (.block 2 (.loop q_ref12_Sectors_L11))) (.seq (.region q_ref12_Sectors_11) (.seq (.region q_ref12_Sectors_12) (.cond (.t 50) (.seq (.region q_ref12_Sectors_13) (.region q_ref12_Sectors_14)) .skip))))))) (.region q_ref12_Sectors_15)))
def q_ref12_Sectors_16 : List AOper := [
  ⟨(some 56), (.mv (.t 3)), none⟩,
  ⟨(some 2), (.mv (.t 56)), none⟩]
def a_ref12_Sectors : AFunc := ⟨[(.tmp 2)], (.seq (.region q_ref12_Sectors_0) (.seq (.region q_ref12_Sectors_1) (.seq (.region q_ref12_Sectors_2) (.seq (.seq (.region q_ref12_Sectors_3) (.block 0 (.loop q_ref12_Sectors_L16))) (.seq (.region q_ref12_Sectors_16) .ret)))))⟩

def q_ref12_Read_0 : List AOper := [
  ⟨(some 2), (.mv (.v .nilS)), none⟩,
  ⟨(some 3), (.mv (.v (.bool false))), none⟩]
def q_ref12_Read_1 : List AOper := [
  ⟨(some 4), (.mv (.v .nilS)), none⟩]
def q_ref12_Read_2 : List AOper := [
  ⟨(some 5), (.mv (.v (.int .i64 0))), none⟩]
def q_ref12_Read_3 : List AOper := [
  ⟨(some 11), (.mv (.t 5)), none⟩,
  ⟨(some 12), (.mv (.t 0)), none⟩,
  ⟨(some 13), (.len false (.t 12)), none⟩,
  ⟨(some 14), (.bin .lss (.t 11) (.t 13)), none⟩]
def q_ref12_Read_4 : List AOper := [
  ⟨(some 6), (.mv (.v (.int .i64 0))), none⟩]
def q_ref12_Read_5 : List AOper := [
  ⟨(some 17), (.mv (.t 6)), none⟩,
  ⟨(some 18), (.bin .lss (.t 17) (.v (.int .i64 6))), none⟩]
def q_ref12_Read_6 : List AOper := [
  ⟨(some 21), (.mv (.t 4)), none⟩,
  ⟨(some 22), (.mv (.t 0)), none⟩,
  ⟨(some 23), (.mv (.t 5)), none⟩,
  ⟨(some 24), (.idx 256 (.t 22) (.t 23)), none⟩,
  ⟨(some 25), (.load (.ia .u8 256) 256 (.t 24)), none⟩,
  ⟨(some 26), (.mv (.t 6)), none⟩,
  ⟨(some 27), (.bin .mul (.v (.int .i64 42)) (.t 26)), none⟩,
  ⟨(some 28), (.call F_ref12_one [((.ia .u8 256), (.t 25)), (.sc, (.t 27))]), none⟩,
  ⟨(some 29), (.bsl 32 .ag 34 [(.t 28)]), none⟩,
  ⟨(some 30), (.app 32 34 48 (.t 21) (.t 29)), none⟩,
  ⟨(some 4), (.mv (.t 30)), none⟩]
def q_ref12_Read_7 : List AOper := [
  ⟨(some 19), (.mv (.t 6)), none⟩,
  ⟨(some 20), (.bin .add (.t 19) (.v (.int .i64 1))), none⟩,
  ⟨(some 6), (.mv (.t 20)), none⟩]
def q_ref12_Read_L8 : ACode := (.seq (.seq (.region q_ref12_Read_5) (.cond (.t 18) .skip (.exit 2))) (.seq (.block 3 (.region q_ref12_Read_6)) (.region q_ref12_Read_7)))
def q_ref12_Read_8 : List AOper := [
  ⟨(some 15), (.mv (.t 5)), none⟩,
  ⟨(some 16), (.bin .add (.t 15) (.v (.int .i64 1))), none⟩,
  ⟨(some 5), (.mv (.t 16)), none⟩]
def q_ref12_Read_L9 : ACode := (.seq (.seq (.region q_ref12_Read_3) (.cond (.t 14) .skip (.exit 0))) (.seq (.block 1 (.seq (.region q_ref12_Read_4) (.block 2 (.loop q_ref12_Read_L8)))) (.region q_ref12_Read_8)))
def q_ref12_Read_9 : List AOper := [
  ⟨(some 31), (.mv (.t 4)), none⟩,
  ⟨(some 32), (.call F_ref12_Sectors [(.sc, (.t 31))]), none⟩,
  ⟨(some 7), (.mv (.t 32)), none⟩]
def q_ref12_Read_10 : List AOper := [
  ⟨(some 8), (.mv (.v (.int .i64 0))), none⟩]
def q_ref12_Read_11 : List AOper := [
  ⟨(some 33), (.mv (.t 8)), none⟩,
  ⟨(some 34), (.mv (.t 0)), none⟩,
  ⟨(some 35), (.len false (.t 34)), none⟩,
  ⟨(some 36), (.bin .lss (.t 33) (.t 35)), none⟩]
def q_ref12_Read_12 : List DOp := [
  ⟨⟨(some 39), (.mv (.t 7)), none⟩, true, false, none, []⟩,
  ⟨⟨(some 40), (.mv (.t 8)), none⟩, true, false, none, []⟩,
  ⟨⟨(some 41), (.idx 256 (.t 39) (.t 40)), none⟩, true, false, none, []⟩,
  ⟨⟨(some 42), (.load (.ia .u8 256) 256 (.t 41)), none⟩, true, false, none, []⟩,
  ⟨⟨(some 43), (.mv (.t 0)), none⟩, true, false, none, []⟩,
  ⟨⟨(some 44), (.mv (.t 8)), none⟩, true, false, none, []⟩,
  ⟨⟨(some 45), (.idx 256 (.t 43) (.t 44)), none⟩, true, false, none, []⟩,
  ⟨⟨(some 46), (.load (.ia .u8 256) 256 (.t 45)), none⟩, true, false, none, []⟩,
  ⟨⟨(some 47), (.eq (.ia 256) true (.t 42) (.t 46)), none⟩, true, false, none, []⟩]
def q_ref12_Read_13 : List AOper := [
  ⟨(some 2), (.mv (.v .nilS)), none⟩,
  ⟨(some 3), (.mv (.v (.bool false))), none⟩]
def q_ref12_Read_14 : List AOper := [
  ⟨(some 37), (.mv (.t 8)), none⟩,
  ⟨(some 38), (.bin .add (.t 37) (.v (.int .i64 1))), none⟩,
  ⟨(some 8), (.mv (.t 38)), none⟩]
def q_ref12_Read_L15 : ACode := (.seq (.seq (.region q_ref12_Read_11) (.cond (.t 36) .skip (.exit 4))) (.seq (.block 5 (.seq (.regionD q_ref12_Read_12) (.cond (.t 47) (.seq (.region q_ref12_Read_13) .ret) .skip))) (.region q_ref12_Read_14)))
def q_ref12_Read_15 : List AOper := [
  ⟨(some 49), (.mv (.t 4)), none⟩,
  ⟨(some 50), (.call F_ref11_Entries [(.sc, (.t 49))]), none⟩,
  ⟨(some 48), (.mv (.t 50)), none⟩,
  ⟨(some 51), (.ext 0 (.t 48)), none⟩,
  ⟨(some 52), (.ext 1 (.t 48)), none⟩,
  ⟨(some 9), (.mv (.t 51)), none⟩,
  ⟨(some 10), (.mv (.t 52)), none⟩]
def q_ref12_Read_16 : List AOper := [
  ⟨(some 53), (.mv (.t 4)), none⟩,
  ⟨(some 54), (.mv (.t 10)), none⟩,
  ⟨(some 55), (.mv (.t 54)), none⟩,
  ⟨(some 56), (.mv (.t 9)), (some (55, true))⟩,
  ⟨(some 57), (.mv (.t 4)), (some (55, true))⟩,
  ⟨(some 58), (.len false (.t 57)), (some (55, true))⟩,
  ⟨(some 59), (.call F_ref11_Places [(.sc, (.t 56)), (.sc, (.t 58))]), (some (55, true))⟩,
  ⟨(some 60), (.mv (.t 4)), (some (55, true))⟩,
  ⟨(some 61), (.call F_ref11_Same [(.sc, (.t 59)), (.sc, (.t 60))]), (some (55, true))⟩,
  ⟨(some 62), (.pick (.t 55) (.t 61) (.v (.bool false))), none⟩,
  ⟨(some 2), (.mv (.t 53)), none⟩,
  ⟨(some 3), (.mv (.t 62)), none⟩]
def a_ref12_Read : AFunc := ⟨[(.tmp 2), (.tmp 3)], (.seq (.region q_ref12_Read_0) (.seq (.region q_ref12_Read_1) (.seq (.seq (.region q_ref12_Read_2) (.block 0 (.loop q_ref12_Read_L9))) (.seq (.region q_ref12_Read_9) (.seq (.seq (.region q_ref12_Read_10) (.block 4 (.loop q_ref12_Read_L15))) (.seq (.region q_ref12_Read_15) (.seq (.region q_ref12_Read_16) .ret)))))))⟩

def q_ref12_one_0 : List AOper := [
  ⟨(some 2), (.box 54 (.ia .u8 256) (.t 0)), none⟩,
  ⟨(some 4), (.alloc 32 [(.iarr .u8 32 (List.replicate 32 0)), (.int .i64 0), (.int .i64 0)]), none⟩]
def q_ref12_one_1 : List AOper := [
  ⟨(some 8), (.build .ag [(.iarr .u8 32 (List.replicate 32 0)), (.int .i64 0), (.int .i64 0)] []), none⟩,
  ⟨(some 5), (.alloc 32 [(.iarr .u8 32 (List.replicate 32 0)), (.int .i64 0), (.int .i64 0)]), none⟩,
  ⟨none, (.store .ag 34 (.t 5) (.t 8)), none⟩]
def q_ref12_one_2 : List AOper := [
  ⟨(some 6), (.mv (.v (.int .i64 5))), none⟩]
def q_ref12_one_3 : List AOper := [
  ⟨(some 9), (.mv (.t 6)), none⟩,
  ⟨(some 10), (.bin .geq (.t 9) (.v (.int .i64 0))), none⟩]
def q_ref12_one_4 : List DOp := [
  ⟨⟨(some 13), (.fadr 33 1 .sc (.t 5)), none⟩, true, false, none, []⟩,
  ⟨⟨(some 14), (.load .sc 1 (.t 13)), none⟩, true, false, none, []⟩,
  ⟨⟨(some 15), (.bin .mul (.t 14) (.v (.int .i64 256))), none⟩, true, false, none, []⟩,
  ⟨⟨(some 16), (.mv (.t 1)), none⟩, true, false, none, []⟩,
  ⟨⟨(some 17), (.mv (.t 6)), none⟩, true, false, none, []⟩,
  ⟨⟨(some 18), (.bin .add (.t 16) (.t 17)), none⟩, true, false, none, []⟩,
  ⟨⟨(some 19), (.idxA 256 1 true (.t 2) (.t 18)), none⟩, true, false, none, []⟩,
  ⟨⟨(some 20), (.load .sc 1 (.t 19)), none⟩, true, false, none, []⟩,
  ⟨⟨(some 21), (.conv .i64 (.t 20)), none⟩, true, false, none, []⟩,
  ⟨⟨(some 22), (.bin .add (.t 15) (.t 21)), none⟩, true, false, none, []⟩,
  ⟨⟨(some 23), (.fadr 33 1 .sc (.t 5)), none⟩, true, false, none, []⟩,
  ⟨⟨none, (.store .sc 1 (.t 23) (.t 22)), none⟩, false, false, none, []⟩]
def q_ref12_one_5 : List AOper := [
  ⟨(some 11), (.mv (.t 6)), none⟩,
  ⟨(some 12), (.bin .sub (.t 11) (.v (.int .i64 1))), none⟩,
  ⟨(some 6), (.mv (.t 12)), none⟩]
def q_ref12_one_L6 : ACode := (.seq (.seq (.region q_ref12_one_3) (.cond (.t 10) .skip (.exit 0))) (.seq (.block 1 (.regionD q_ref12_one_4)) (.region q_ref12_one_5)))
def q_ref12_one_6 : List DOp := [
  ⟨⟨(some 24), (.mv (.t 1)), none⟩, true, false, none, []⟩,
  ⟨⟨(some 25), (.bin .add (.t 24) (.v (.int .i64 6))), none⟩, true, false, none, []⟩,
  ⟨⟨(some 26), (.idxA 256 1 true (.t 2) (.t 25)), none⟩, true, false, none, []⟩,
  ⟨⟨(some 27), (.load .sc 1 (.t 26)), none⟩, true, false, none, []⟩,
  ⟨⟨(some 28), (.conv .i64 (.t 27)), none⟩, true, false, none, []⟩,
  ⟨⟨(some 29), (.mv (.t 1)), none⟩, true, false, none, []⟩,
  ⟨⟨(some 30), (.bin .add (.t 29) (.v (.int .i64 7))), none⟩, true, false, none, []⟩,
  ⟨⟨(some 31), (.idxA 256 1 true (.t 2) (.t 30)), none⟩, true, false, none, []⟩,
  ⟨⟨(some 32), (.load .sc 1 (.t 31)), none⟩, true, false, none, []⟩,
  ⟨⟨(some 33), (.conv .i64 (.t 32)), none⟩, true, false, none, []⟩,
  ⟨⟨(some 34), (.bin .mul (.v (.int .i64 256)) (.t 33)), none⟩, true, false, none, []⟩,
  ⟨⟨(some 35), (.bin .add (.t 28) (.t 34)), none⟩, true, false, none, []⟩,
  ⟨⟨(some 36), (.fadr 32 1 .sc (.t 5)), none⟩, true, false, none, []⟩,
  ⟨⟨none, (.store .sc 1 (.t 36) (.t 35)), none⟩, false, false, none, []⟩]
def q_ref12_one_7 : List AOper := [
  ⟨(some 7), (.mv (.v (.int .i64 0))), none⟩]
def q_ref12_one_8 : List AOper := [
  ⟨(some 37), (.mv (.t 7)), none⟩,
  ⟨(some 38), (.bin .lss (.t 37) (.v (.int .i64 32))), none⟩]
def q_ref12_one_9 : List AOper := [
  ⟨(some 41), (.mv (.t 7)), none⟩,
  ⟨(some 42), (.mv (.t 1)), none⟩,
  ⟨(some 43), (.bin .add (.t 42) (.v (.int .i64 8))), none⟩,
  ⟨(some 44), (.mv (.t 7)), none⟩,
  ⟨(some 45), (.bin .add (.t 43) (.t 44)), none⟩,
  ⟨(some 46), (.idxA 256 1 true (.t 2) (.t 45)), none⟩,
  ⟨(some 47), (.load .sc 1 (.t 46)), none⟩,
  ⟨(some 48), (.fadr 0 32 (.ia .u8 32) (.t 5)), none⟩,
  ⟨(some 49), (.idxA 32 1 true (.t 48) (.t 41)), none⟩,
  ⟨none, (.store .sc 1 (.t 49) (.t 47)), none⟩]
def q_ref12_one_10 : List AOper := [
  ⟨(some 39), (.mv (.t 7)), none⟩,
  ⟨(some 40), (.bin .add (.t 39) (.v (.int .i64 1))), none⟩,
  ⟨(some 7), (.mv (.t 40)), none⟩]
def q_ref12_one_L11 : ACode := (.seq (.seq (.region q_ref12_one_8) (.cond (.t 38) .skip (.exit 2))) (.seq (.block 3 (.region q_ref12_one_9)) (.region q_ref12_one_10)))
def q_ref12_one_11 : List AOper := [
  ⟨(some 50), (.load .ag 34 (.t 5)), none⟩,
  ⟨none, (.store .ag 34 (.t 4) (.t 50)), none⟩]
def a_ref12_one : AFunc := ⟨[(.cell 4 .ag 34)], (.seq (.region q_ref12_one_0) (.seq (.region q_ref12_one_1) (.seq (.seq (.region q_ref12_one_2) (.block 0 (.loop q_ref12_one_L6))) (.seq (.regionD q_ref12_one_6) (.seq (.seq (.region q_ref12_one_7) (.block 2 (.loop q_ref12_one_L11))) (.seq (.region q_ref12_one_11) .ret))))))⟩

def q_law12_ShelfBack_0 : List AOper := [
  ⟨(some 6), (.mv (.v (.bool false))), none⟩]
def q_law12_ShelfBack_1 : List AOper := [
  ⟨(some 22), (.mv (.t 0)), none⟩,
  ⟨(some 23), (.len false (.t 22)), none⟩,
  ⟨(some 24), (.bin .gtr (.t 23) (.v (.int .i64 40))), none⟩,
  ⟨(some 25), (.mv (.t 24)), none⟩,
  ⟨(some 26), (.mv (.t 2)), (some (25, false))⟩,
  ⟨(some 27), (.bin .lss (.t 26) (.v (.int .i64 0))), (some (25, false))⟩,
  ⟨(some 28), (.pick (.t 25) (.v (.bool true)) (.t 27)), none⟩,
  ⟨(some 29), (.mv (.t 28)), none⟩,
  ⟨(some 30), (.mv (.t 2)), (some (29, false))⟩,
  ⟨(some 31), (.bin .gtr (.t 30) (.v (.int .i64 1099511627776))), (some (29, false))⟩,
  ⟨(some 32), (.pick (.t 29) (.v (.bool true)) (.t 31)), none⟩]
def q_law12_ShelfBack_2 : List AOper := [
  ⟨(some 33), (.call F_law12_works []), none⟩,
  ⟨(some 6), (.mv (.t 33)), none⟩]
def q_law12_ShelfBack_3 : List AOper := [
  ⟨(some 34), (.mv (.t 1)), none⟩,
  ⟨(some 35), (.conv .i64 (.t 34)), none⟩,
  ⟨(some 36), (.bin .rem (.t 35) (.v (.int .i64 6))), none⟩,
  ⟨(some 37), (.bin .add (.v (.int .i64 1)) (.t 36)), none⟩,
  ⟨(some 38), (.bin .mul (.v (.int .i64 6)) (.t 37)), none⟩,
  ⟨(some 7), (.mv (.t 38)), none⟩]
def q_law12_ShelfBack_4 : List AOper := [
  ⟨(some 40), (.mv (.t 7)), none⟩,
  ⟨(some 41), (.call F_table_New [(.sc, (.t 40))]), none⟩,
  ⟨(some 39), (.mv (.t 41)), none⟩,
  ⟨(some 42), (.ext 0 (.t 39)), none⟩,
  ⟨(some 43), (.ext 1 (.t 39)), none⟩,
  ⟨(some 8), (.mv (.t 42)), none⟩,
  ⟨(some 9), (.mv (.t 43)), none⟩]
def q_law12_ShelfBack_5 : List AOper := [
  ⟨(some 44), (.mv (.t 8)), none⟩,
  ⟨(some 45), (.xx (.p (.isNil .ptr false)) [(.t 44)]), none⟩,
  ⟨(some 46), (.mv (.t 45)), none⟩,
  ⟨(some 47), (.mv (.t 9)), (some (46, false))⟩,
  ⟨(some 48), (.eq .scI true (.t 47) (.v (.int .i64 0))), (some (46, false))⟩,
  ⟨(some 49), (.pick (.t 46) (.v (.bool true)) (.t 48)), none⟩]
def q_law12_ShelfBack_6 : List AOper := [
  ⟨(some 6), (.mv (.v (.bool false))), none⟩]
def q_law12_ShelfBack_7 : List AOper := [
  ⟨(some 10), (.mv (.v .nilS)), none⟩]
def q_law12_ShelfBack_8 : List AOper := [
  ⟨(some 11), (.mv (.v (.int .i64 0))), none⟩]
def q_law12_ShelfBack_9 : List AOper := [
  ⟨(some 50), (.mv (.t 11)), none⟩,
  ⟨(some 51), (.mv (.t 0)), none⟩,
  ⟨(some 52), (.len false (.t 51)), none⟩,
  ⟨(some 53), (.bin .lss (.t 50) (.t 52)), none⟩]
def q_law12_ShelfBack_10 : List AOper := [
  ⟨(some 57), (.mv (.t 10)), none⟩,
  ⟨(some 58), (.mv (.t 7)), none⟩,
  ⟨(some 59), (.mv (.t 0)), none⟩,
  ⟨(some 60), (.mv (.t 11)), none⟩,
  ⟨(some 61), (.idx 34 (.t 59) (.t 60)), none⟩,
  ⟨(some 62), (.load .ag 34 (.t 61)), none⟩,
  ⟨(some 63), (.call F_ref11_Put [(.sc, (.t 57)), (.sc, (.t 58)), (.ag, (.t 62))]), none⟩,
  ⟨(some 56), (.mv (.t 63)), none⟩,
  ⟨(some 64), (.ext 0 (.t 56)), none⟩,
  ⟨(some 65), (.ext 1 (.t 56)), none⟩,
  ⟨(some 12), (.mv (.t 64)), none⟩,
  ⟨(some 13), (.mv (.t 65)), none⟩]
def q_law12_ShelfBack_11 : List AOper := [
  ⟨(some 66), (.mv (.t 8)), none⟩,
  ⟨(some 67), (.mv (.t 0)), none⟩,
  ⟨(some 68), (.mv (.t 11)), none⟩,
  ⟨(some 69), (.idx 34 (.t 67) (.t 68)), none⟩,
  ⟨(some 70), (.load .ag 34 (.t 69)), none⟩,
  ⟨(some 71), (.call F_Ptable_Table_Put [(.sc, (.t 66)), (.ag, (.t 70))]), none⟩,
  ⟨(some 72), (.mv (.t 13)), none⟩,
  ⟨(some 73), (.eq .scI true (.t 71) (.t 72)), none⟩]
def q_law12_ShelfBack_12 : List AOper := [
  ⟨(some 6), (.mv (.v (.bool false))), none⟩]
def q_law12_ShelfBack_13 : List AOper := [
  ⟨(some 74), (.mv (.t 12)), none⟩,
  ⟨(some 10), (.mv (.t 74)), none⟩]
def q_law12_ShelfBack_14 : List AOper := [
  ⟨(some 54), (.mv (.t 11)), none⟩,
  ⟨(some 55), (.bin .add (.t 54) (.v (.int .i64 1))), none⟩,
  ⟨(some 11), (.mv (.t 55)), none⟩]
def q_law12_ShelfBack_L15 : ACode := (.seq (.seq (.region q_law12_ShelfBack_9) (.cond (.t 53) .skip (.exit 0))) (.seq (.block 1 (.seq (.region q_law12_ShelfBack_10) (.seq (.seq (.region q_law12_ShelfBack_11) (.cond (.t 73) (.seq (.region q_law12_ShelfBack_12) .ret) .skip)) (.region q_law12_ShelfBack_13)))) (.region q_law12_ShelfBack_14)))
def q_law12_ShelfBack_15 : List AOper := [
  ⟨(some 75), (.mv (.t 10)), none⟩,
  ⟨(some 76), (.mv (.t 7)), none⟩,
  ⟨(some 77), (.call F_ref11_Places [(.sc, (.t 75)), (.sc, (.t 76))]), none⟩,
  ⟨(some 14), (.mv (.t 77)), none⟩]
def q_law12_ShelfBack_16 : List AOper := [
  ⟨(some 79), (.mv (.t 8)), none⟩,
  ⟨(some 80), (.call F_shelf_Put [(.sc, (.t 79))]), none⟩,
  ⟨(some 78), (.mv (.t 80)), none⟩,
  ⟨(some 81), (.ext 0 (.t 78)), none⟩,
  ⟨(some 82), (.ext 1 (.t 78)), none⟩,
  ⟨(some 15), (.mv (.t 81)), none⟩,
  ⟨(some 16), (.mv (.t 82)), none⟩]
def q_law12_ShelfBack_17 : List AOper := [
  ⟨(some 84), (.mv (.t 8)), none⟩,
  ⟨(some 85), (.mv (.t 2)), none⟩,
  ⟨(some 86), (.call F_shelf_Changes [(.sc, (.t 84)), (.sc, (.t 85))]), none⟩,
  ⟨(some 83), (.mv (.t 86)), none⟩,
  ⟨(some 87), (.ext 0 (.t 83)), none⟩,
  ⟨(some 88), (.ext 1 (.t 83)), none⟩,
  ⟨(some 17), (.mv (.t 87)), none⟩,
  ⟨(some 18), (.mv (.t 88)), none⟩]
def q_law12_ShelfBack_18 : List AOper := [
  ⟨(some 89), (.mv (.t 16)), none⟩,
  ⟨(some 90), (.eq .scI true (.t 89) (.v (.int .i64 0))), none⟩,
  ⟨(some 91), (.mv (.t 90)), none⟩,
  ⟨(some 92), (.mv (.t 18)), (some (91, false))⟩,
  ⟨(some 93), (.eq .scI true (.t 92) (.v (.int .i64 0))), (some (91, false))⟩,
  ⟨(some 94), (.pick (.t 91) (.v (.bool true)) (.t 93)), none⟩,
  ⟨(some 95), (.mv (.t 94)), none⟩,
  ⟨(some 96), (.mv (.t 15)), (some (95, false))⟩,
  ⟨(some 97), (.mv (.t 14)), (some (95, false))⟩,
  ⟨(some 98), (.call F_ref12_Sectors [(.sc, (.t 97))]), (some (95, false))⟩,
  ⟨(some 99), (.call F_ref06_SameImage [(.sc, (.t 96)), (.sc, (.t 98))]), (some (95, false))⟩,
  ⟨(some 100), (.un .not (.t 99)), (some (95, false))⟩,
  ⟨(some 101), (.pick (.t 95) (.v (.bool true)) (.t 100)), none⟩,
  ⟨(some 102), (.mv (.t 101)), none⟩,
  ⟨(some 103), (.mv (.t 17)), (some (102, false))⟩,
  ⟨(some 104), (.len false (.t 103)), (some (102, false))⟩,
  ⟨(some 105), (.mv (.t 15)), (some (102, false))⟩,
  ⟨(some 106), (.len false (.t 105)), (some (102, false))⟩,
  ⟨(some 107), (.eq .scI true (.t 104) (.t 106)), (some (102, false))⟩,
  ⟨(some 108), (.pick (.t 102) (.v (.bool true)) (.t 107)), none⟩]
def q_law12_ShelfBack_19 : List AOper := [
  ⟨(some 6), (.mv (.v (.bool false))), none⟩]
def q_law12_ShelfBack_20 : List AOper := [
  ⟨(some 19), (.mv (.v (.int .i64 0))), none⟩]
def q_law12_ShelfBack_21 : List AOper := [
  ⟨(some 109), (.mv (.t 19)), none⟩,
  ⟨(some 110), (.mv (.t 17)), none⟩,
  ⟨(some 111), (.len false (.t 110)), none⟩,
  ⟨(some 112), (.bin .lss (.t 109) (.t 111)), none⟩]
def q_law12_ShelfBack_22 : List DOp := [
  ⟨⟨(some 115), (.mv (.t 17)), none⟩, true, false, none, []⟩,
  ⟨⟨(some 116), (.mv (.t 19)), none⟩, true, false, none, []⟩,
  ⟨⟨(some 117), (.idx 257 (.t 115) (.t 116)), none⟩, true, false, none, []⟩,
  ⟨⟨(some 118), (.fadr 0 1 .sc (.t 117)), none⟩, true, false, none, []⟩,
  ⟨⟨(some 119), (.load .sc 1 (.t 118)), none⟩, true, false, none, []⟩,
  ⟨⟨(some 120), (.mv (.t 2)), none⟩, true, false, none, []⟩,
  ⟨⟨(some 121), (.mv (.t 19)), none⟩, true, false, none, []⟩,
  ⟨⟨(some 122), (.bin .add (.t 120) (.t 121)), none⟩, true, false, none, []⟩,
  ⟨⟨(some 123), (.eq .scI true (.t 119) (.t 122)), none⟩, true, false, none, []⟩,
  ⟨⟨(some 124), (.mv (.t 123)), none⟩, true, false, none, []⟩,
  ⟨⟨(some 125), (.mv (.t 17)), (some (124, false))⟩, true, false, none, []⟩,
  ⟨⟨(some 126), (.mv (.t 19)), (some (124, false))⟩, true, false, none, []⟩,
  ⟨⟨(some 127), (.idx 257 (.t 125) (.t 126)), (some (124, false))⟩, true, false, none, []⟩,
  ⟨⟨(some 128), (.fadr 1 256 (.ia .u8 256) (.t 127)), (some (124, false))⟩, true, false, none, []⟩,
  ⟨⟨(some 129), (.load (.ia .u8 256) 256 (.t 128)), (some (124, false))⟩, true, false, none, []⟩,
  ⟨⟨(some 130), (.mv (.t 15)), (some (124, false))⟩, true, false, none, []⟩,
  ⟨⟨(some 131), (.mv (.t 19)), (some (124, false))⟩, true, false, none, []⟩,
  ⟨⟨(some 132), (.idx 256 (.t 130) (.t 131)), (some (124, false))⟩, true, false, none, []⟩,
  ⟨⟨(some 133), (.load (.ia .u8 256) 256 (.t 132)), (some (124, false))⟩, true, false, none, []⟩,
  ⟨⟨(some 134), (.eq (.ia 256) true (.t 129) (.t 133)), (some (124, false))⟩, true, false, none, []⟩,
  ⟨⟨(some 135), (.pick (.t 124) (.v (.bool true)) (.t 134)), none⟩, true, false, none, []⟩]
def q_law12_ShelfBack_23 : List AOper := [
  ⟨(some 6), (.mv (.v (.bool false))), none⟩]
def q_law12_ShelfBack_24 : List AOper := [
  ⟨(some 113), (.mv (.t 19)), none⟩,
  ⟨(some 114), (.bin .add (.t 113) (.v (.int .i64 1))), none⟩,
  ⟨(some 19), (.mv (.t 114)), none⟩]
def q_law12_ShelfBack_L25 : ACode := (.seq (.seq (.region q_law12_ShelfBack_21) (.cond (.t 112) .skip (.exit 2))) (.seq (.block 3 (.seq (.regionD q_law12_ShelfBack_22) (.cond (.t 135) (.seq (.region q_law12_ShelfBack_23) .ret) .skip))) (.region q_law12_ShelfBack_24)))
def q_law12_ShelfBack_25 : List AOper := [
  ⟨(some 137), (.mv (.t 15)), none⟩,
  ⟨(some 138), (.call F_shelf_Get [(.sc, (.t 137))]), none⟩,
  ⟨(some 136), (.mv (.t 138)), none⟩,
  ⟨(some 139), (.ext 0 (.t 136)), none⟩,
  ⟨(some 140), (.ext 1 (.t 136)), none⟩,
  ⟨(some 20), (.mv (.t 139)), none⟩,
  ⟨(some 21), (.mv (.t 140)), none⟩]
def q_law12_ShelfBack_26 : List AOper := [
  ⟨(some 141), (.mv (.t 21)), none⟩,
  ⟨(some 142), (.eq .scI false (.t 141) (.v (.int .i64 0))), none⟩,
  ⟨(some 143), (.mv (.t 142)), none⟩,
  ⟨(some 144), (.mv (.t 20)), (some (143, true))⟩,
  ⟨(some 145), (.xx (.p (.isNil .ptr true)) [(.t 144)]), (some (143, true))⟩,
  ⟨(some 146), (.pick (.t 143) (.t 145) (.v (.bool false))), none⟩,
  ⟨(some 147), (.mv (.t 146)), none⟩,
  ⟨(some 148), (.mv (.t 20)), (some (147, true))⟩,
  ⟨(some 149), (.call F_Ptable_Table_Places [(.sc, (.t 148))]), (some (147, true))⟩,
  ⟨(some 150), (.mv (.t 14)), (some (147, true))⟩,
  ⟨(some 151), (.call F_ref11_Same [(.sc, (.t 149)), (.sc, (.t 150))]), (some (147, true))⟩,
  ⟨(some 152), (.pick (.t 147) (.t 151) (.v (.bool false))), none⟩,
  ⟨(some 153), (.mv (.t 152)), none⟩,
  ⟨(some 154), (.mv (.t 20)), (some (153, true))⟩,
  ⟨(some 155), (.call F_Ptable_Table_Len [(.sc, (.t 154))]), (some (153, true))⟩,
  ⟨(some 156), (.mv (.t 10)), (some (153, true))⟩,
  ⟨(some 157), (.len false (.t 156)), (some (153, true))⟩,
  ⟨(some 158), (.eq .scI false (.t 155) (.t 157)), (some (153, true))⟩,
  ⟨(some 159), (.pick (.t 153) (.t 158) (.v (.bool false))), none⟩,
  ⟨(some 160), (.mv (.t 159)), none⟩,
  ⟨(some 161), (.call F_law12_works []), (some (160, true))⟩,
  ⟨(some 162), (.pick (.t 160) (.t 161) (.v (.bool false))), none⟩,
  ⟨(some 6), (.mv (.t 162)), none⟩]
def a_law12_ShelfBack : AFunc := ⟨[(.tmp 6)], (.seq (.region q_law12_ShelfBack_0) (.seq (.seq (.region q_law12_ShelfBack_1) (.cond (.t 32) (.seq (.region q_law12_ShelfBack_2) .ret) .skip)) (.seq (.region q_law12_ShelfBack_3) (.seq (.region q_law12_ShelfBack_4) (.seq (.seq (.region q_law12_ShelfBack_5) (.cond (.t 49) (.seq (.region q_law12_ShelfBack_6) .ret) .skip)) (.seq (.region q_law12_ShelfBack_7) (.seq (.seq (.region q_law12_ShelfBack_8) (.block 0 (.loop q_law12_ShelfBack_L15))) (.seq (.region q_law12_ShelfBack_15) (.seq (.region q_law12_ShelfBack_16) (.seq (.region q_law12_ShelfBack_17) (.seq (.seq (.region q_law12_ShelfBack_18) (.cond (.t 108) (.seq (.region q_law12_ShelfBack_19) .ret) .skip)) (.seq (.seq (.region q_law12_ShelfBack_20) (.block 2 (.loop q_law12_ShelfBack_L25))) (.seq (.region q_law12_ShelfBack_25) (.seq (.region q_law12_ShelfBack_26) .ret))))))))))))))⟩

def q_law12_ShelfReads_0 : List AOper := [
  ⟨(some 2), (.mv (.v (.bool false))), none⟩]
def q_law12_ShelfReads_1 : List AOper := [
  ⟨(some 9), (.mv (.t 0)), none⟩,
  ⟨(some 10), (.len false (.t 9)), none⟩,
  ⟨(some 11), (.bin .gtr (.t 10) (.v (.int .i64 8))), none⟩]
def q_law12_ShelfReads_2 : List AOper := [
  ⟨(some 12), (.call F_law12_works []), none⟩,
  ⟨(some 2), (.mv (.t 12)), none⟩]
def q_law12_ShelfReads_3 : List AOper := [
  ⟨(some 14), (.mv (.t 0)), none⟩,
  ⟨(some 15), (.call F_shelf_Get [(.sc, (.t 14))]), none⟩,
  ⟨(some 13), (.mv (.t 15)), none⟩,
  ⟨(some 16), (.ext 0 (.t 13)), none⟩,
  ⟨(some 17), (.ext 1 (.t 13)), none⟩,
  ⟨(some 3), (.mv (.t 16)), none⟩,
  ⟨(some 4), (.mv (.t 17)), none⟩]
def q_law12_ShelfReads_4 : List AOper := [
  ⟨(some 18), (.mv (.t 0)), none⟩,
  ⟨(some 19), (.len false (.t 18)), none⟩,
  ⟨(some 20), (.bin .lss (.t 19) (.v (.int .i64 1))), none⟩]
def q_law12_ShelfReads_5 : List AOper := [
  ⟨(some 21), (.mv (.t 4)), none⟩,
  ⟨(some 22), (.eq .scI false (.t 21) (.v (.int .i64 2))), none⟩,
  ⟨(some 23), (.mv (.t 22)), none⟩,
  ⟨(some 24), (.mv (.t 3)), (some (23, true))⟩,
  ⟨(some 25), (.xx (.p (.isNil .ptr false)) [(.t 24)]), (some (23, true))⟩,
  ⟨(some 26), (.pick (.t 23) (.t 25) (.v (.bool false))), none⟩,
  ⟨(some 27), (.mv (.t 26)), none⟩,
  ⟨(some 28), (.call F_law12_works []), (some (27, true))⟩,
  ⟨(some 29), (.pick (.t 27) (.t 28) (.v (.bool false))), none⟩,
  ⟨(some 2), (.mv (.t 29)), none⟩]
def q_law12_ShelfReads_6 : List AOper := [
  ⟨(some 31), (.mv (.t 0)), none⟩,
  ⟨(some 32), (.call F_ref12_Read [(.sc, (.t 31))]), none⟩,
  ⟨(some 30), (.mv (.t 32)), none⟩,
  ⟨(some 33), (.ext 0 (.t 30)), none⟩,
  ⟨(some 34), (.ext 1 (.t 30)), none⟩,
  ⟨(some 5), (.mv (.t 33)), none⟩,
  ⟨(some 6), (.mv (.t 34)), none⟩]
def q_law12_ShelfReads_7 : List AOper := [
  ⟨(some 35), (.mv (.t 6)), none⟩,
  ⟨(some 36), (.un .not (.t 35)), none⟩]
def q_law12_ShelfReads_8 : List AOper := [
  ⟨(some 37), (.mv (.t 4)), none⟩,
  ⟨(some 38), (.eq .scI false (.t 37) (.v (.int .i64 5))), none⟩,
  ⟨(some 39), (.mv (.t 38)), none⟩,
  ⟨(some 40), (.mv (.t 3)), (some (39, true))⟩,
  ⟨(some 41), (.xx (.p (.isNil .ptr false)) [(.t 40)]), (some (39, true))⟩,
  ⟨(some 42), (.pick (.t 39) (.t 41) (.v (.bool false))), none⟩,
  ⟨(some 43), (.mv (.t 42)), none⟩,
  ⟨(some 44), (.call F_law12_works []), (some (43, true))⟩,
  ⟨(some 45), (.pick (.t 43) (.t 44) (.v (.bool false))), none⟩,
  ⟨(some 2), (.mv (.t 45)), none⟩]
def q_law12_ShelfReads_9 : List AOper := [
  ⟨(some 46), (.mv (.t 4)), none⟩,
  ⟨(some 47), (.eq .scI true (.t 46) (.v (.int .i64 0))), none⟩,
  ⟨(some 48), (.mv (.t 47)), none⟩,
  ⟨(some 49), (.mv (.t 3)), (some (48, false))⟩,
  ⟨(some 50), (.xx (.p (.isNil .ptr false)) [(.t 49)]), (some (48, false))⟩,
  ⟨(some 51), (.pick (.t 48) (.v (.bool true)) (.t 50)), none⟩]
def q_law12_ShelfReads_10 : List AOper := [
  ⟨(some 2), (.mv (.v (.bool false))), none⟩]
def q_law12_ShelfReads_11 : List AOper := [
  ⟨(some 53), (.mv (.t 3)), none⟩,
  ⟨(some 54), (.call F_shelf_Put [(.sc, (.t 53))]), none⟩,
  ⟨(some 52), (.mv (.t 54)), none⟩,
  ⟨(some 55), (.ext 0 (.t 52)), none⟩,
  ⟨(some 56), (.ext 1 (.t 52)), none⟩,
  ⟨(some 7), (.mv (.t 55)), none⟩,
  ⟨(some 8), (.mv (.t 56)), none⟩]
def q_law12_ShelfReads_12 : List AOper := [
  ⟨(some 57), (.mv (.t 3)), none⟩,
  ⟨(some 58), (.call F_Ptable_Table_Places [(.sc, (.t 57))]), none⟩,
  ⟨(some 59), (.mv (.t 5)), none⟩,
  ⟨(some 60), (.call F_ref11_Same [(.sc, (.t 58)), (.sc, (.t 59))]), none⟩,
  ⟨(some 61), (.mv (.t 60)), none⟩,
  ⟨(some 62), (.mv (.t 8)), (some (61, true))⟩,
  ⟨(some 63), (.eq .scI false (.t 62) (.v (.int .i64 0))), (some (61, true))⟩,
  ⟨(some 64), (.pick (.t 61) (.t 63) (.v (.bool false))), none⟩,
  ⟨(some 65), (.mv (.t 64)), none⟩,
  ⟨(some 66), (.mv (.t 7)), (some (65, true))⟩,
  ⟨(some 67), (.mv (.t 0)), (some (65, true))⟩,
  ⟨(some 68), (.call F_ref06_SameImage [(.sc, (.t 66)), (.sc, (.t 67))]), (some (65, true))⟩,
  ⟨(some 69), (.pick (.t 65) (.t 68) (.v (.bool false))), none⟩,
  ⟨(some 70), (.mv (.t 69)), none⟩,
  ⟨(some 71), (.call F_law12_works []), (some (70, true))⟩,
  ⟨(some 72), (.pick (.t 70) (.t 71) (.v (.bool false))), none⟩,
  ⟨(some 2), (.mv (.t 72)), none⟩]
def a_law12_ShelfReads : AFunc := ⟨[(.tmp 2)], (.seq (.region q_law12_ShelfReads_0) (.seq (.seq (.region q_law12_ShelfReads_1) (.cond (.t 11) (.seq (.region q_law12_ShelfReads_2) .ret) .skip)) (.seq (.region q_law12_ShelfReads_3) (.seq (.seq (.region q_law12_ShelfReads_4) (.cond (.t 20) (.seq (.region q_law12_ShelfReads_5) .ret) .skip)) (.seq (.region q_law12_ShelfReads_6) (.seq (.seq (.region q_law12_ShelfReads_7) (.cond (.t 36) (.seq (.region q_law12_ShelfReads_8) .ret) .skip)) (.seq (.seq (.region q_law12_ShelfReads_9) (.cond (.t 51) (.seq (.region q_law12_ShelfReads_10) .ret) .skip)) (.seq (.region q_law12_ShelfReads_11) (.seq (.region q_law12_ShelfReads_12) .ret)))))))))⟩

def q_law12_ShelfForgets_0 : List AOper := [
  ⟨(some 3), (.box 32 .ag (.t 1)), none⟩,
  ⟨(some 4), (.mv (.v (.bool false))), none⟩]
def q_law12_ShelfForgets_1 : List AOper := [
  ⟨(some 16), (.mv (.t 0)), none⟩,
  ⟨(some 17), (.len false (.t 16)), none⟩,
  ⟨(some 18), (.bin .gtr (.t 17) (.v (.int .i64 40))), none⟩]
def q_law12_ShelfForgets_2 : List AOper := [
  ⟨(some 19), (.call F_law12_works []), none⟩,
  ⟨(some 4), (.mv (.t 19)), none⟩]
def q_law12_ShelfForgets_3 : List AOper := [
  ⟨(some 21), (.call F_table_New [(.sc, (.v (.int .i64 30)))]), none⟩,
  ⟨(some 20), (.mv (.t 21)), none⟩,
  ⟨(some 22), (.ext 0 (.t 20)), none⟩,
  ⟨(some 23), (.ext 1 (.t 20)), none⟩,
  ⟨(some 5), (.mv (.t 22)), none⟩,
  ⟨(some 6), (.mv (.t 23)), none⟩]
def q_law12_ShelfForgets_4 : List AOper := [
  ⟨(some 24), (.mv (.t 5)), none⟩,
  ⟨(some 25), (.xx (.p (.isNil .ptr false)) [(.t 24)]), none⟩,
  ⟨(some 26), (.mv (.t 25)), none⟩,
  ⟨(some 27), (.mv (.t 6)), (some (26, false))⟩,
  ⟨(some 28), (.eq .scI true (.t 27) (.v (.int .i64 0))), (some (26, false))⟩,
  ⟨(some 29), (.pick (.t 26) (.v (.bool true)) (.t 28)), none⟩]
def q_law12_ShelfForgets_5 : List AOper := [
  ⟨(some 4), (.mv (.v (.bool false))), none⟩]
def q_law12_ShelfForgets_6 : List AOper := [
  ⟨(some 7), (.mv (.v (.int .i64 0))), none⟩]
def q_law12_ShelfForgets_7 : List AOper := [
  ⟨(some 30), (.mv (.t 7)), none⟩,
  ⟨(some 31), (.mv (.t 0)), none⟩,
  ⟨(some 32), (.len false (.t 31)), none⟩,
  ⟨(some 33), (.bin .lss (.t 30) (.t 32)), none⟩]
def q_law12_ShelfForgets_8 : List AOper := [
  ⟨(some 36), (.mv (.t 5)), none⟩,
  ⟨(some 37), (.mv (.t 0)), none⟩,
  ⟨(some 38), (.mv (.t 7)), none⟩,
  ⟨(some 39), (.idx 34 (.t 37) (.t 38)), none⟩,
  ⟨(some 40), (.load .ag 34 (.t 39)), none⟩,
  ⟨(some 41), (.call F_Ptable_Table_Put [(.sc, (.t 36)), (.ag, (.t 40))]), none⟩]
def q_law12_ShelfForgets_9 : List AOper := [
  ⟨(some 34), (.mv (.t 7)), none⟩,
  ⟨(some 35), (.bin .add (.t 34) (.v (.int .i64 1))), none⟩,
  ⟨(some 7), (.mv (.t 35)), none⟩]
def q_law12_ShelfForgets_L10 : ACode := (.seq (.seq (.region q_law12_ShelfForgets_7) (.cond (.t 33) .skip (.exit 0))) (.seq (.block 1 (.region q_law12_ShelfForgets_8)) (.region q_law12_ShelfForgets_9)))
def q_law12_ShelfForgets_10 : List AOper := [
  ⟨(some 43), (.mv (.t 5)), none⟩,
  ⟨(some 44), (.fadr 0 32 (.ia .u8 32) (.t 3)), none⟩,
  ⟨(some 45), (.load (.ia .u8 32) 32 (.t 44)), none⟩,
  ⟨(some 46), (.call F_Ptable_Table_Get [(.sc, (.t 43)), ((.ia .u8 32), (.t 45))]), none⟩,
  ⟨(some 42), (.mv (.t 46)), none⟩,
  ⟨(some 47), (.ext 0 (.t 42)), none⟩,
  ⟨(some 48), (.ext 1 (.t 42)), none⟩,
  ⟨(some 8), (.alloc 32 [(.iarr .u8 32 (List.replicate 32 0)), (.int .i64 0), (.int .i64 0)]), none⟩,
  ⟨none, (.store .ag 34 (.t 8) (.t 47)), none⟩,
  ⟨(some 9), (.mv (.t 48)), none⟩]
def q_law12_ShelfForgets_11 : List AOper := [
  ⟨(some 49), (.mv (.t 9)), none⟩]
def q_law12_ShelfForgets_12 : List AOper := [
  ⟨(some 50), (.call F_law12_works []), none⟩,
  ⟨(some 4), (.mv (.t 50)), none⟩]
def q_law12_ShelfForgets_13 : List AOper := [
  ⟨(some 52), (.mv (.t 5)), none⟩,
  ⟨(some 53), (.call F_shelf_Put [(.sc, (.t 52))]), none⟩,
  ⟨(some 51), (.mv (.t 53)), none⟩,
  ⟨(some 54), (.ext 0 (.t 51)), none⟩,
  ⟨(some 55), (.ext 1 (.t 51)), none⟩,
  ⟨(some 10), (.mv (.t 54)), none⟩,
  ⟨(some 11), (.mv (.t 55)), none⟩]
def q_law12_ShelfForgets_14 : List AOper := [
  ⟨(some 56), (.mv (.t 5)), none⟩,
  ⟨(some 57), (.load .ag 34 (.t 3)), none⟩,
  ⟨(some 58), (.call F_Ptable_Table_Put [(.sc, (.t 56)), (.ag, (.t 57))]), none⟩,
  ⟨(some 59), (.eq .scI true (.t 58) (.v (.int .i64 0))), none⟩]
def q_law12_ShelfForgets_15 : List AOper := [
  ⟨(some 60), (.call F_law12_works []), none⟩,
  ⟨(some 4), (.mv (.t 60)), none⟩]
def q_law12_ShelfForgets_16 : List AOper := [
  ⟨(some 62), (.mv (.t 5)), none⟩,
  ⟨(some 63), (.call F_shelf_Put [(.sc, (.t 62))]), none⟩,
  ⟨(some 61), (.mv (.t 63)), none⟩,
  ⟨(some 64), (.ext 0 (.t 61)), none⟩,
  ⟨(some 65), (.ext 1 (.t 61)), none⟩,
  ⟨(some 12), (.mv (.t 64)), none⟩,
  ⟨(some 13), (.mv (.t 65)), none⟩]
def q_law12_ShelfForgets_17 : List AOper := [
  ⟨(some 66), (.mv (.t 5)), none⟩,
  ⟨(some 67), (.fadr 0 32 (.ia .u8 32) (.t 3)), none⟩,
  ⟨(some 68), (.load (.ia .u8 32) 32 (.t 67)), none⟩,
  ⟨(some 69), (.call F_Ptable_Table_Drop [(.sc, (.t 66)), ((.ia .u8 32), (.t 68))]), none⟩,
  ⟨(some 70), (.eq .scI true (.t 69) (.v (.int .i64 0))), none⟩]
def q_law12_ShelfForgets_18 : List AOper := [
  ⟨(some 4), (.mv (.v (.bool false))), none⟩]
def q_law12_ShelfForgets_19 : List AOper := [
  ⟨(some 72), (.mv (.t 5)), none⟩,
  ⟨(some 73), (.call F_shelf_Put [(.sc, (.t 72))]), none⟩,
  ⟨(some 71), (.mv (.t 73)), none⟩,
  ⟨(some 74), (.ext 0 (.t 71)), none⟩,
  ⟨(some 75), (.ext 1 (.t 71)), none⟩,
  ⟨(some 14), (.mv (.t 74)), none⟩,
  ⟨(some 15), (.mv (.t 75)), none⟩]
def q_law12_ShelfForgets_20 : List AOper := [
  ⟨(some 76), (.mv (.t 10)), none⟩,
  ⟨(some 77), (.mv (.t 14)), none⟩,
  ⟨(some 78), (.call F_ref06_SameImage [(.sc, (.t 76)), (.sc, (.t 77))]), none⟩,
  ⟨(some 79), (.mv (.t 78)), none⟩,
  ⟨(some 80), (.mv (.t 10)), (some (79, true))⟩,
  ⟨(some 81), (.mv (.t 12)), (some (79, true))⟩,
  ⟨(some 82), (.call F_ref06_SameImage [(.sc, (.t 80)), (.sc, (.t 81))]), (some (79, true))⟩,
  ⟨(some 83), (.un .not (.t 82)), (some (79, true))⟩,
  ⟨(some 84), (.pick (.t 79) (.t 83) (.v (.bool false))), none⟩,
  ⟨(some 85), (.mv (.t 84)), none⟩,
  ⟨(some 86), (.mv (.t 10)), (some (85, true))⟩,
  ⟨(some 87), (.len false (.t 86)), (some (85, true))⟩,
  ⟨(some 88), (.eq .scI false (.t 87) (.v (.int .i64 5))), (some (85, true))⟩,
  ⟨(some 89), (.pick (.t 85) (.t 88) (.v (.bool false))), none⟩,
  ⟨(some 90), (.mv (.t 89)), none⟩,
  ⟨(some 91), (.call F_law12_works []), (some (90, true))⟩,
  ⟨(some 92), (.pick (.t 90) (.t 91) (.v (.bool false))), none⟩,
  ⟨(some 4), (.mv (.t 92)), none⟩]
def a_law12_ShelfForgets : AFunc := ⟨[(.tmp 4)], (.seq (.region q_law12_ShelfForgets_0) (.seq (.seq (.region q_law12_ShelfForgets_1) (.cond (.t 18) (.seq (.region q_law12_ShelfForgets_2) .ret) .skip)) (.seq (.region q_law12_ShelfForgets_3) (.seq (.seq (.region q_law12_ShelfForgets_4) (.cond (.t 29) (.seq (.region q_law12_ShelfForgets_5) .ret) .skip)) (.seq (.seq (.region q_law12_ShelfForgets_6) (.block 0 (.loop q_law12_ShelfForgets_L10))) (.seq (.seq (.region q_law12_ShelfForgets_10) (.seq (.region q_law12_ShelfForgets_11) (.cond (.t 49) (.seq (.region q_law12_ShelfForgets_12) .ret) .skip))) (.seq (.region q_law12_ShelfForgets_13) (.seq (.seq (.region q_law12_ShelfForgets_14) (.cond (.t 59) (.seq (.region q_law12_ShelfForgets_15) .ret) .skip)) (.seq (.region q_law12_ShelfForgets_16) (.seq (.seq (.region q_law12_ShelfForgets_17) (.cond (.t 70) (.seq (.region q_law12_ShelfForgets_18) .ret) .skip)) (.seq (.region q_law12_ShelfForgets_19) (.seq (.region q_law12_ShelfForgets_20) .ret))))))))))))⟩

def q_law12_works_0 : List AOper := [
  ⟨(some 0), (.mv (.v (.bool false))), none⟩]
def q_law12_works_1 : List AOper := [
  ⟨(some 18), (.call F_table_New [(.sc, (.v (.int .i64 12)))]), none⟩,
  ⟨(some 17), (.mv (.t 18)), none⟩,
  ⟨(some 19), (.ext 0 (.t 17)), none⟩,
  ⟨(some 20), (.ext 1 (.t 17)), none⟩,
  ⟨(some 1), (.mv (.t 19)), none⟩,
  ⟨(some 2), (.mv (.t 20)), none⟩]
def q_law12_works_2 : List AOper := [
  ⟨(some 22), (.call F_table_New [(.sc, (.v (.int .i64 7)))]), none⟩,
  ⟨(some 21), (.mv (.t 22)), none⟩,
  ⟨(some 23), (.ext 0 (.t 21)), none⟩,
  ⟨(some 24), (.ext 1 (.t 21)), none⟩,
  ⟨(some 3), (.mv (.t 23)), none⟩,
  ⟨(some 4), (.mv (.t 24)), none⟩]
def q_law12_works_3 : List AOper := [
  ⟨(some 25), (.mv (.t 1)), none⟩,
  ⟨(some 26), (.xx (.p (.isNil .ptr false)) [(.t 25)]), none⟩,
  ⟨(some 27), (.mv (.t 26)), none⟩,
  ⟨(some 28), (.mv (.t 3)), (some (27, false))⟩,
  ⟨(some 29), (.xx (.p (.isNil .ptr false)) [(.t 28)]), (some (27, false))⟩,
  ⟨(some 30), (.pick (.t 27) (.v (.bool true)) (.t 29)), none⟩]
def q_law12_works_4 : List AOper := [
  ⟨(some 0), (.mv (.v (.bool false))), none⟩]
def q_law12_works_5 : List AOper := [
  ⟨(some 31), (.mv (.t 1)), none⟩,
  ⟨(some 32), (.build (.ia .u8 32) [(.iarr .u8 32 (List.replicate 32 0))] [(0, (1, (.v (.int .u8 1))))]), none⟩,
  ⟨(some 33), (.build .ag [(.iarr .u8 32 (List.replicate 32 0)), (.int .i64 0), (.int .i64 0)] [(0, (32, (.t 32))), (32, (1, (.v (.int .i64 3)))), (33, (1, (.v (.int .i64 2))))]), none⟩,
  ⟨(some 34), (.call F_Ptable_Table_Put [(.sc, (.t 31)), (.ag, (.t 33))]), none⟩]
def q_law12_works_6 : List AOper := [
  ⟨(some 36), (.mv (.t 1)), none⟩,
  ⟨(some 37), (.call F_shelf_Put [(.sc, (.t 36))]), none⟩,
  ⟨(some 35), (.mv (.t 37)), none⟩,
  ⟨(some 38), (.ext 0 (.t 35)), none⟩,
  ⟨(some 39), (.ext 1 (.t 35)), none⟩,
  ⟨(some 5), (.mv (.t 38)), none⟩,
  ⟨(some 6), (.mv (.t 39)), none⟩]
def q_law12_works_7 : List AOper := [
  ⟨(some 41), (.mv (.t 3)), none⟩,
  ⟨(some 42), (.call F_shelf_Put [(.sc, (.t 41))]), none⟩,
  ⟨(some 40), (.mv (.t 42)), none⟩,
  ⟨(some 43), (.ext 0 (.t 40)), none⟩,
  ⟨(some 44), (.ext 1 (.t 40)), none⟩,
  ⟨(some 7), (.mv (.t 43)), none⟩,
  ⟨(some 8), (.mv (.t 44)), none⟩]
def q_law12_works_8 : List AOper := [
  ⟨(some 46), (.mv (.t 5)), none⟩,
  ⟨(some 47), (.call F_shelf_Get [(.sc, (.t 46))]), none⟩,
  ⟨(some 45), (.mv (.t 47)), none⟩,
  ⟨(some 48), (.ext 0 (.t 45)), none⟩,
  ⟨(some 49), (.ext 1 (.t 45)), none⟩,
  ⟨(some 9), (.mv (.t 48)), none⟩,
  ⟨(some 10), (.mv (.t 49)), none⟩]
def q_law12_works_9 : List AOper := [
  ⟨(some 51), (.mv (.t 1)), none⟩,
  ⟨(some 52), (.call F_shelf_Changes [(.sc, (.t 51)), (.sc, (.v (.int .i64 5)))]), none⟩,
  ⟨(some 50), (.mv (.t 52)), none⟩,
  ⟨(some 53), (.ext 0 (.t 50)), none⟩,
  ⟨(some 54), (.ext 1 (.t 50)), none⟩,
  ⟨(some 11), (.mv (.t 53)), none⟩,
  ⟨(some 12), (.mv (.t 54)), none⟩]
def q_law12_works_10 : List AOper := [
  ⟨(some 56), (.call F_shelf_Get [(.sc, (.v .nilS))]), none⟩,
  ⟨(some 55), (.mv (.t 56)), none⟩,
  ⟨(some 57), (.ext 0 (.t 55)), none⟩,
  ⟨(some 58), (.ext 1 (.t 55)), none⟩,
  ⟨(some 13), (.mv (.t 57)), none⟩,
  ⟨(some 14), (.mv (.t 58)), none⟩]
def q_law12_works_11 : List AOper := [
  ⟨(some 59), (.mv (.t 9)), none⟩,
  ⟨(some 60), (.xx (.p (.isNil .ptr false)) [(.t 59)]), none⟩,
  ⟨(some 61), (.mv (.t 60)), none⟩,
  ⟨(some 62), (.mv (.t 5)), (some (61, false))⟩,
  ⟨(some 63), (.len false (.t 62)), (some (61, false))⟩,
  ⟨(some 64), (.eq .scI true (.t 63) (.v (.int .i64 2))), (some (61, false))⟩,
  ⟨(some 65), (.pick (.t 61) (.v (.bool true)) (.t 64)), none⟩,
  ⟨(some 66), (.mv (.t 65)), none⟩,
  ⟨(some 67), (.mv (.t 11)), (some (66, false))⟩,
  ⟨(some 68), (.len false (.t 67)), (some (66, false))⟩,
  ⟨(some 69), (.eq .scI true (.t 68) (.v (.int .i64 2))), (some (66, false))⟩,
  ⟨(some 70), (.pick (.t 66) (.v (.bool true)) (.t 69)), none⟩]
def q_law12_works_12 : List AOper := [
  ⟨(some 0), (.mv (.v (.bool false))), none⟩]
def q_law12_works_13 : List AOper := [
  ⟨(some 71), (.mv (.t 5)), none⟩,
  ⟨(some 72), (.idx 256 (.t 71) (.v (.int .i64 0))), none⟩,
  ⟨(some 73), (.idxA 256 1 true (.t 72) (.v (.int .i64 0))), none⟩,
  ⟨none, (.store .sc 1 (.t 73) (.v (.int .u8 9))), none⟩]
def q_law12_works_14 : List AOper := [
  ⟨(some 75), (.mv (.t 5)), none⟩,
  ⟨(some 76), (.call F_shelf_Get [(.sc, (.t 75))]), none⟩,
  ⟨(some 74), (.mv (.t 76)), none⟩,
  ⟨(some 77), (.ext 0 (.t 74)), none⟩,
  ⟨(some 78), (.ext 1 (.t 74)), none⟩,
  ⟨(some 15), (.mv (.t 77)), none⟩,
  ⟨(some 16), (.mv (.t 78)), none⟩]
def q_law12_works_15 : List AOper := [
  ⟨(some 79), (.mv (.t 6)), none⟩,
  ⟨(some 80), (.eq .scI false (.t 79) (.v (.int .i64 0))), none⟩,
  ⟨(some 81), (.mv (.t 80)), none⟩,
  ⟨(some 82), (.mv (.t 8)), (some (81, true))⟩,
  ⟨(some 83), (.eq .scI false (.t 82) (.v (.int .i64 1))), (some (81, true))⟩,
  ⟨(some 84), (.pick (.t 81) (.t 83) (.v (.bool false))), none⟩,
  ⟨(some 85), (.mv (.t 84)), none⟩,
  ⟨(some 86), (.mv (.t 10)), (some (85, true))⟩,
  ⟨(some 87), (.eq .scI false (.t 86) (.v (.int .i64 0))), (some (85, true))⟩,
  ⟨(some 88), (.pick (.t 85) (.t 87) (.v (.bool false))), none⟩,
  ⟨(some 89), (.mv (.t 88)), none⟩,
  ⟨(some 90), (.mv (.t 9)), (some (89, true))⟩,
  ⟨(some 91), (.call F_Ptable_Table_Len [(.sc, (.t 90))]), (some (89, true))⟩,
  ⟨(some 92), (.eq .scI false (.t 91) (.v (.int .i64 1))), (some (89, true))⟩,
  ⟨(some 93), (.pick (.t 89) (.t 92) (.v (.bool false))), none⟩,
  ⟨(some 94), (.mv (.t 93)), none⟩,
  ⟨(some 95), (.mv (.t 12)), (some (94, true))⟩,
  ⟨(some 96), (.eq .scI false (.t 95) (.v (.int .i64 0))), (some (94, true))⟩,
  ⟨(some 97), (.pick (.t 94) (.t 96) (.v (.bool false))), none⟩,
  ⟨(some 98), (.mv (.t 97)), none⟩,
  ⟨(some 99), (.mv (.t 11)), (some (98, true))⟩,
  ⟨(some 100), (.idx 257 (.t 99) (.v (.int .i64 1))), (some (98, true))⟩,
  ⟨(some 101), (.fadr 0 1 .sc (.t 100)), (some (98, true))⟩,
  ⟨(some 102), (.load .sc 1 (.t 101)), (some (98, true))⟩,
  ⟨(some 103), (.eq .scI false (.t 102) (.v (.int .i64 6))), (some (98, true))⟩,
  ⟨(some 104), (.pick (.t 98) (.t 103) (.v (.bool false))), none⟩,
  ⟨(some 105), (.mv (.t 104)), none⟩,
  ⟨(some 106), (.mv (.t 14)), (some (105, true))⟩,
  ⟨(some 107), (.eq .scI false (.t 106) (.v (.int .i64 2))), (some (105, true))⟩,
  ⟨(some 108), (.pick (.t 105) (.t 107) (.v (.bool false))), none⟩,
  ⟨(some 109), (.mv (.t 108)), none⟩,
  ⟨(some 110), (.mv (.t 16)), (some (109, true))⟩,
  ⟨(some 111), (.eq .scI false (.t 110) (.v (.int .i64 5))), (some (109, true))⟩,
  ⟨(some 112), (.pick (.t 109) (.t 111) (.v (.bool false))), none⟩,
  ⟨(some 0), (.mv (.t 112)), none⟩]
def a_law12_works : AFunc := ⟨[(.tmp 0)], (.seq (.region q_law12_works_0) (.seq (.region q_law12_works_1) (.seq (.region q_law12_works_2) (.seq (.seq (.region q_law12_works_3) (.cond (.t 30) (.seq (.region q_law12_works_4) .ret) .skip)) (.seq (.region q_law12_works_5) (.seq (.region q_law12_works_6) (.seq (.region q_law12_works_7) (.seq (.region q_law12_works_8) (.seq (.region q_law12_works_9) (.seq (.region q_law12_works_10) (.seq (.seq (.region q_law12_works_11) (.cond (.t 70) (.seq (.region q_law12_works_12) .ret) .skip)) (.seq (.region q_law12_works_13) (.seq (.region q_law12_works_14) (.seq (.region q_law12_works_15) .ret))))))))))))))⟩

def q_ref06_SameImage_0 : List AOper := [
  ⟨(some 4), (.mv (.v (.bool false))), none⟩]
def q_ref06_SameImage_1 : List AOper := [
  ⟨(some 6), (.mv (.t 0)), none⟩,
  ⟨(some 7), (.len false (.t 6)), none⟩,
  ⟨(some 8), (.mv (.t 1)), none⟩,
  ⟨(some 9), (.len false (.t 8)), none⟩,
  ⟨(some 10), (.eq .scI true (.t 7) (.t 9)), none⟩]
def q_ref06_SameImage_2 : List AOper := [
  ⟨(some 4), (.mv (.v (.bool false))), none⟩]
def q_ref06_SameImage_3 : List AOper := [
  ⟨(some 5), (.mv (.v (.int .i64 0))), none⟩]
def q_ref06_SameImage_4 : List AOper := [
  ⟨(some 11), (.mv (.t 5)), none⟩,
  ⟨(some 12), (.mv (.t 0)), none⟩,
  ⟨(some 13), (.len false (.t 12)), none⟩,
  ⟨(some 14), (.bin .lss (.t 11) (.t 13)), none⟩]
def q_ref06_SameImage_5 : List DOp := [
  ⟨⟨(some 17), (.mv (.t 0)), none⟩, true, false, none, []⟩,
  ⟨⟨(some 18), (.mv (.t 5)), none⟩, true, false, none, []⟩,
  ⟨⟨(some 19), (.idx 256 (.t 17) (.t 18)), none⟩, true, false, none, []⟩,
  ⟨⟨(some 20), (.load (.ia .u8 256) 256 (.t 19)), none⟩, true, false, none, []⟩,
  ⟨⟨(some 21), (.mv (.t 1)), none⟩, true, false, none, []⟩,
  ⟨⟨(some 22), (.mv (.t 5)), none⟩, true, false, none, []⟩,
  ⟨⟨(some 23), (.idx 256 (.t 21) (.t 22)), none⟩, true, false, none, []⟩,
  ⟨⟨(some 24), (.load (.ia .u8 256) 256 (.t 23)), none⟩, true, false, none, []⟩,
  ⟨⟨(some 25), (.eq (.ia 256) true (.t 20) (.t 24)), none⟩, true, false, none, []⟩]
def q_ref06_SameImage_6 : List AOper := [
  ⟨(some 4), (.mv (.v (.bool false))), none⟩]
def q_ref06_SameImage_7 : List AOper := [
  ⟨(some 15), (.mv (.t 5)), none⟩,
  ⟨(some 16), (.bin .add (.t 15) (.v (.int .i64 1))), none⟩,
  ⟨(some 5), (.mv (.t 16)), none⟩]
def q_ref06_SameImage_L8 : ACode := (.seq (.seq (.region q_ref06_SameImage_4) (.cond (.t 14) .skip (.exit 0))) (.seq (.block 1 (.seq (.regionD q_ref06_SameImage_5) (.cond (.t 25) (.seq (.region q_ref06_SameImage_6) .ret) .skip))) (.region q_ref06_SameImage_7)))
def q_ref06_SameImage_8 : List AOper := [
  ⟨(some 4), (.mv (.v (.bool true))), none⟩]
def a_ref06_SameImage : AFunc := ⟨[(.tmp 4)], (.seq (.region q_ref06_SameImage_0) (.seq (.seq (.region q_ref06_SameImage_1) (.cond (.t 10) (.seq (.region q_ref06_SameImage_2) .ret) .skip)) (.seq (.seq (.region q_ref06_SameImage_3) (.block 0 (.loop q_ref06_SameImage_L8))) (.seq (.region q_ref06_SameImage_8) .ret))))⟩


theorem c_shelf_Put : trF Try.prog Try.f47 = some a_shelf_Put := by kernel_rfl
theorem g_shelf_Put : Try.prog.funcs[47]? = some Try.f47 := by kernel_rfl
theorem j_shelf_Put {args : List AV} {A : Heap} {K Kp : AV → Heap → Prop} (hn : args.length ≤ 28) (h : X Try.prog (inl a_shelf_Put.res K Kp) a_shelf_Put.body .done (env0 args) A) : SimX Try.prog F_shelf_Put args A (outK K Kp) :=
  X_inl g_shelf_Put c_shelf_Put (by rw [Try.ntmps47]; exact hn) h
@[simp] theorem k_shelf_Put : callable Try.prog F_shelf_Put = true := by kernel_rfl
theorem c_shelf_Changes : trF Try.prog Try.f48 = some a_shelf_Changes := by kernel_rfl
theorem g_shelf_Changes : Try.prog.funcs[48]? = some Try.f48 := by kernel_rfl
theorem j_shelf_Changes {args : List AV} {A : Heap} {K Kp : AV → Heap → Prop} (hn : args.length ≤ 36) (h : X Try.prog (inl a_shelf_Changes.res K Kp) a_shelf_Changes.body .done (env0 args) A) : SimX Try.prog F_shelf_Changes args A (outK K Kp) :=
  X_inl g_shelf_Changes c_shelf_Changes (by rw [Try.ntmps48]; exact hn) h
@[simp] theorem k_shelf_Changes : callable Try.prog F_shelf_Changes = true := by kernel_rfl
theorem c_shelf_Get : trF Try.prog Try.f51 = some a_shelf_Get := by kernel_rfl
theorem g_shelf_Get : Try.prog.funcs[51]? = some Try.f51 := by kernel_rfl
theorem j_shelf_Get {args : List AV} {A : Heap} {K Kp : AV → Heap → Prop} (hn : args.length ≤ 44) (h : X Try.prog (inl a_shelf_Get.res K Kp) a_shelf_Get.body .done (env0 args) A) : SimX Try.prog F_shelf_Get args A (outK K Kp) :=
  X_inl g_shelf_Get c_shelf_Get (by rw [Try.ntmps51]; exact hn) h
@[simp] theorem k_shelf_Get : callable Try.prog F_shelf_Get = true := by kernel_rfl
theorem c_shelf_sector : trF Try.prog Try.f83 = some a_shelf_sector := by kernel_rfl
theorem g_shelf_sector : Try.prog.funcs[83]? = some Try.f83 := by kernel_rfl
theorem v_shelf_sector {args : List AV} {v : AV} (hn : args.length ≤ 23) (h : X Try.prog (fin a_shelf_sector.res v) a_shelf_sector.body .done (env0 args) H0) : Gives Try.prog F_shelf_sector args v :=
  Gives_intro g_shelf_sector c_shelf_sector (by rw [Try.ntmps83]; exact hn) h
@[simp] theorem k_shelf_sector : callable Try.prog F_shelf_sector = true := by kernel_rfl
theorem c_shelf_entries : trF Try.prog Try.f84 = some a_shelf_entries := by kernel_rfl
theorem g_shelf_entries : Try.prog.funcs[84]? = some Try.f84 := by kernel_rfl
theorem j_shelf_entries {args : List AV} {A : Heap} {K Kp : AV → Heap → Prop} (hn : args.length ≤ 38) (h : X Try.prog (inl a_shelf_entries.res K Kp) a_shelf_entries.body .done (env0 args) A) : SimX Try.prog F_shelf_entries args A (outK K Kp) :=
  X_inl g_shelf_entries c_shelf_entries (by rw [Try.ntmps84]; exact hn) h
@[simp] theorem k_shelf_entries : callable Try.prog F_shelf_entries = true := by kernel_rfl
theorem c_shelf_entry : trF Try.prog Try.f96 = some a_shelf_entry := by kernel_rfl
theorem g_shelf_entry : Try.prog.funcs[96]? = some Try.f96 := by kernel_rfl
theorem j_shelf_entry {args : List AV} {A : Heap} {K Kp : AV → Heap → Prop} (hn : args.length ≤ 20) (h : X Try.prog (inl a_shelf_entry.res K Kp) a_shelf_entry.body .done (env0 args) A) : SimX Try.prog F_shelf_entry args A (outK K Kp) :=
  X_inl g_shelf_entry c_shelf_entry (by rw [Try.ntmps96]; exact hn) h
@[simp] theorem k_shelf_entry : callable Try.prog F_shelf_entry = true := by kernel_rfl
theorem c_ref12_Sectors : trF Try.prog Try.f50 = some a_ref12_Sectors := by kernel_rfl
theorem g_ref12_Sectors : Try.prog.funcs[50]? = some Try.f50 := by kernel_rfl
theorem j_ref12_Sectors {args : List AV} {A : Heap} {K Kp : AV → Heap → Prop} (hn : args.length ≤ 57) (h : X Try.prog (inl a_ref12_Sectors.res K Kp) a_ref12_Sectors.body .done (env0 args) A) : SimX Try.prog F_ref12_Sectors args A (outK K Kp) :=
  X_inl g_ref12_Sectors c_ref12_Sectors (by rw [Try.ntmps50]; exact hn) h
@[simp] theorem k_ref12_Sectors : callable Try.prog F_ref12_Sectors = true := by kernel_rfl
theorem c_ref12_Read : trF Try.prog Try.f52 = some a_ref12_Read := by kernel_rfl
theorem g_ref12_Read : Try.prog.funcs[52]? = some Try.f52 := by kernel_rfl
theorem j_ref12_Read {args : List AV} {A : Heap} {K Kp : AV → Heap → Prop} (hn : args.length ≤ 63) (h : X Try.prog (inl a_ref12_Read.res K Kp) a_ref12_Read.body .done (env0 args) A) : SimX Try.prog F_ref12_Read args A (outK K Kp) :=
  X_inl g_ref12_Read c_ref12_Read (by rw [Try.ntmps52]; exact hn) h
@[simp] theorem k_ref12_Read : callable Try.prog F_ref12_Read = true := by kernel_rfl
theorem c_ref12_one : trF Try.prog Try.f85 = some a_ref12_one := by kernel_rfl
theorem g_ref12_one : Try.prog.funcs[85]? = some Try.f85 := by kernel_rfl
theorem v_ref12_one {args : List AV} {v : AV} (hn : args.length ≤ 51) (h : X Try.prog (fin a_ref12_one.res v) a_ref12_one.body .done (env0 args) H0) : Gives Try.prog F_ref12_one args v :=
  Gives_intro g_ref12_one c_ref12_one (by rw [Try.ntmps85]; exact hn) h
@[simp] theorem k_ref12_one : callable Try.prog F_ref12_one = true := by kernel_rfl
theorem c_law12_ShelfBack : trF Try.prog Try.f10 = some a_law12_ShelfBack := by kernel_rfl
theorem g_law12_ShelfBack : Try.prog.funcs[10]? = some Try.f10 := by kernel_rfl
theorem v_law12_ShelfBack {args : List AV} {v : AV} (hn : args.length ≤ 163) (h : X Try.prog (fin a_law12_ShelfBack.res v) a_law12_ShelfBack.body .done (env0 args) H0) : Gives Try.prog F_law12_ShelfBack args v :=
  Gives_intro g_law12_ShelfBack c_law12_ShelfBack (by rw [Try.ntmps10]; exact hn) h
@[simp] theorem k_law12_ShelfBack : callable Try.prog F_law12_ShelfBack = true := by kernel_rfl
theorem c_law12_ShelfReads : trF Try.prog Try.f11 = some a_law12_ShelfReads := by kernel_rfl
theorem g_law12_ShelfReads : Try.prog.funcs[11]? = some Try.f11 := by kernel_rfl
theorem v_law12_ShelfReads {args : List AV} {v : AV} (hn : args.length ≤ 73) (h : X Try.prog (fin a_law12_ShelfReads.res v) a_law12_ShelfReads.body .done (env0 args) H0) : Gives Try.prog F_law12_ShelfReads args v :=
  Gives_intro g_law12_ShelfReads c_law12_ShelfReads (by rw [Try.ntmps11]; exact hn) h
@[simp] theorem k_law12_ShelfReads : callable Try.prog F_law12_ShelfReads = true := by kernel_rfl
theorem c_law12_ShelfForgets : trF Try.prog Try.f12 = some a_law12_ShelfForgets := by kernel_rfl
theorem g_law12_ShelfForgets : Try.prog.funcs[12]? = some Try.f12 := by kernel_rfl
theorem v_law12_ShelfForgets {args : List AV} {v : AV} (hn : args.length ≤ 93) (h : X Try.prog (fin a_law12_ShelfForgets.res v) a_law12_ShelfForgets.body .done (env0 args) H0) : Gives Try.prog F_law12_ShelfForgets args v :=
  Gives_intro g_law12_ShelfForgets c_law12_ShelfForgets (by rw [Try.ntmps12]; exact hn) h
@[simp] theorem k_law12_ShelfForgets : callable Try.prog F_law12_ShelfForgets = true := by kernel_rfl
theorem c_law12_works : trF Try.prog Try.f44 = some a_law12_works := by kernel_rfl
theorem g_law12_works : Try.prog.funcs[44]? = some Try.f44 := by kernel_rfl
theorem v_law12_works {args : List AV} {v : AV} (hn : args.length ≤ 113) (h : X Try.prog (fin a_law12_works.res v) a_law12_works.body .done (env0 args) H0) : Gives Try.prog F_law12_works args v :=
  Gives_intro g_law12_works c_law12_works (by rw [Try.ntmps44]; exact hn) h
@[simp] theorem k_law12_works : callable Try.prog F_law12_works = true := by kernel_rfl
theorem c_ref06_SameImage : trF Try.prog Try.f49 = some a_ref06_SameImage := by kernel_rfl
theorem g_ref06_SameImage : Try.prog.funcs[49]? = some Try.f49 := by kernel_rfl
theorem v_ref06_SameImage {args : List AV} {v : AV} (hn : args.length ≤ 26) (h : X Try.prog (fin a_ref06_SameImage.res v) a_ref06_SameImage.body .done (env0 args) H0) : Gives Try.prog F_ref06_SameImage args v :=
  Gives_intro g_ref06_SameImage c_ref06_SameImage (by rw [Try.ntmps49]; exact hn) h
@[simp] theorem k_ref06_SameImage : callable Try.prog F_ref06_SameImage = true := by kernel_rfl
end Go.Proofs.Ytilgdnbijkcboaa

/- Abstract programs; that they are the program's. -/
namespace Go.Proofs.Ytilgdnbijkcboaa
open Go AVL
set_option linter.unusedVariables false
set_option maxRecDepth 20000

def q_plan_Check_0 : List AOper := [
  ⟨(some 1), (.box 53 .ag (.t 0)), none⟩,
  ⟨(some 2), (.mv (.v (.int .i64 0))), none⟩]
def q_plan_Check_1 : List AOper := [
  ⟨(some 5), (.fadr 0 1 .sc (.t 1)), none⟩,
  ⟨(some 6), (.load .sc 1 (.t 5)), none⟩,
  ⟨(some 7), (.build (.ia .i64 2) [(.iarr .i64 2 [0, 0])] [(0, (1, (.t 6))), (1, (1, (.v (.int .i64 200))))]), none⟩,
  ⟨(some 8), (.fadr 1 1 .sc (.t 1)), none⟩,
  ⟨(some 9), (.load .sc 1 (.t 8)), none⟩,
  ⟨(some 10), (.build (.ia .i64 2) [(.iarr .i64 2 [0, 0])] [(0, (1, (.t 9))), (1, (1, (.v (.int .i64 40))))]), none⟩,
  ⟨(some 11), (.fadr 2 1 .sc (.t 1)), none⟩,
  ⟨(some 12), (.load .sc 1 (.t 11)), none⟩,
  ⟨(some 13), (.build (.ia .i64 2) [(.iarr .i64 2 [0, 0])] [(0, (1, (.t 12))), (1, (1, (.v (.int .i64 40))))]), none⟩,
  ⟨(some 14), (.fadr 3 1 .sc (.t 1)), none⟩,
  ⟨(some 15), (.load .sc 1 (.t 14)), none⟩,
  ⟨(some 16), (.build (.ia .i64 2) [(.iarr .i64 2 [0, 0])] [(0, (1, (.t 15))), (1, (1, (.v (.int .i64 80))))]), none⟩,
  ⟨(some 17), (.build .ag [(.iarr .i64 2 [0, 0]), (.iarr .i64 2 [0, 0]), (.iarr .i64 2 [0, 0]), (.iarr .i64 2 [0, 0])] [(0, (2, (.t 7))), (2, (2, (.t 10))), (4, (2, (.t 13))), (6, (2, (.t 16)))]), none⟩,
  ⟨(some 18), (.mv (.v (.int .i64 0))), none⟩]
def q_plan_Check_2 : List AOper := [
  ⟨(some 19), (.bin .lss (.t 18) (.v (.int .i64 4))), none⟩]
def q_plan_Check_3 : List AOper := [
  ⟨(some 20), (.xx (.idxV 4 2 (.ia .i64 2)) [(.t 17), (.t 18)]), none⟩,
  ⟨(some 4), (.alloc 144 [(.iarr .i64 2 [0, 0])]), none⟩,
  ⟨none, (.store (.ia .i64 2) 2 (.t 4) (.t 20)), none⟩]
def q_plan_Check_4 : List AOper := [
  ⟨(some 21), (.idxA 2 1 true (.t 4) (.v (.int .i64 0))), none⟩,
  ⟨(some 22), (.load .sc 1 (.t 21)), none⟩,
  ⟨(some 23), (.bin .lss (.t 22) (.v (.int .i64 1))), none⟩,
  ⟨(some 24), (.mv (.t 23)), none⟩,
  ⟨(some 25), (.idxA 2 1 true (.t 4) (.v (.int .i64 0))), (some (24, false))⟩,
  ⟨(some 26), (.load .sc 1 (.t 25)), (some (24, false))⟩,
  ⟨(some 27), (.idxA 2 1 true (.t 4) (.v (.int .i64 1))), (some (24, false))⟩,
  ⟨(some 28), (.load .sc 1 (.t 27)), (some (24, false))⟩,
  ⟨(some 29), (.bin .gtr (.t 26) (.t 28)), (some (24, false))⟩,
  ⟨(some 30), (.pick (.t 24) (.v (.bool true)) (.t 29)), none⟩]
def q_plan_Check_5 : List AOper := [
  ⟨(some 2), (.mv (.v (.int .i64 2))), none⟩]
def q_plan_Check_6 : List AOper := [
  ⟨(some 31), (.bin .add (.t 18) (.v (.int .i64 1))), none⟩,
  ⟨(some 18), (.mv (.t 31)), none⟩]
def q_plan_Check_L7 : ACode := (.seq (.region q_plan_Check_2) (.seq (.cond (.t 19) .skip (.exit 0)) (.seq (.block 1 (.seq (.region q_plan_Check_3) (.seq (.region q_plan_Check_4) (.cond (.t 30) (.seq (.region q_plan_Check_5) .ret) .skip)))) (.region q_plan_Check_6))))
def q_plan_Check_7 : List AOper := [
  ⟨(some 2), (.mv (.v (.int .i64 0))), none⟩]
def a_plan_Check : AFunc := ⟨[(.tmp 2)], (.seq (.region q_plan_Check_0) (.seq (.seq (.region q_plan_Check_1) (.block 0 (.loop q_plan_Check_L7))) (.seq (.region q_plan_Check_7) .ret)))⟩

def q_ref07_Check_0 : List AOper := [
  ⟨(some 1), (.box 53 .ag (.t 0)), none⟩,
  ⟨(some 2), (.mv (.v (.int .i64 0))), none⟩]
def q_ref07_Check_1 : List AOper := [
  ⟨(some 3), (.load .ag 4 (.t 1)), none⟩,
  ⟨(some 4), (.call F_ref07_right [(.ag, (.t 3))]), none⟩,
  ⟨(some 5), (.un .not (.t 4)), none⟩]
def q_ref07_Check_2 : List AOper := [
  ⟨(some 2), (.mv (.v (.int .i64 2))), none⟩]
def q_ref07_Check_3 : List AOper := [
  ⟨(some 2), (.mv (.v (.int .i64 0))), none⟩]
def a_ref07_Check : AFunc := ⟨[(.tmp 2)], (.seq (.region q_ref07_Check_0) (.seq (.seq (.region q_ref07_Check_1) (.cond (.t 5) (.seq (.region q_ref07_Check_2) .ret) .skip)) (.seq (.region q_ref07_Check_3) .ret)))⟩

def q_ref07_right_0 : List AOper := [
  ⟨(some 1), (.box 53 .ag (.t 0)), none⟩,
  ⟨(some 2), (.mv (.v (.bool false))), none⟩]
def q_ref07_right_1 : List AOper := [
  ⟨(some 3), (.fadr 0 1 .sc (.t 1)), none⟩,
  ⟨(some 4), (.load .sc 1 (.t 3)), none⟩,
  ⟨(some 5), (.bin .geq (.t 4) (.v (.int .i64 1))), none⟩,
  ⟨(some 6), (.mv (.t 5)), none⟩,
  ⟨(some 7), (.fadr 0 1 .sc (.t 1)), (some (6, true))⟩,
  ⟨(some 8), (.load .sc 1 (.t 7)), (some (6, true))⟩,
  ⟨(some 9), (.bin .leq (.t 8) (.v (.int .i64 200))), (some (6, true))⟩,
  ⟨(some 10), (.pick (.t 6) (.t 9) (.v (.bool false))), none⟩,
  ⟨(some 11), (.mv (.t 10)), none⟩,
  ⟨(some 12), (.fadr 1 1 .sc (.t 1)), (some (11, true))⟩,
  ⟨(some 13), (.load .sc 1 (.t 12)), (some (11, true))⟩,
  ⟨(some 14), (.bin .geq (.t 13) (.v (.int .i64 1))), (some (11, true))⟩,
  ⟨(some 15), (.pick (.t 11) (.t 14) (.v (.bool false))), none⟩,
  ⟨(some 16), (.mv (.t 15)), none⟩,
  ⟨(some 17), (.fadr 1 1 .sc (.t 1)), (some (16, true))⟩,
  ⟨(some 18), (.load .sc 1 (.t 17)), (some (16, true))⟩,
  ⟨(some 19), (.bin .leq (.t 18) (.v (.int .i64 40))), (some (16, true))⟩,
  ⟨(some 20), (.pick (.t 16) (.t 19) (.v (.bool false))), none⟩,
  ⟨(some 21), (.mv (.t 20)), none⟩,
  ⟨(some 22), (.fadr 2 1 .sc (.t 1)), (some (21, true))⟩,
  ⟨(some 23), (.load .sc 1 (.t 22)), (some (21, true))⟩,
  ⟨(some 24), (.bin .geq (.t 23) (.v (.int .i64 1))), (some (21, true))⟩,
  ⟨(some 25), (.pick (.t 21) (.t 24) (.v (.bool false))), none⟩,
  ⟨(some 26), (.mv (.t 25)), none⟩,
  ⟨(some 27), (.fadr 2 1 .sc (.t 1)), (some (26, true))⟩,
  ⟨(some 28), (.load .sc 1 (.t 27)), (some (26, true))⟩,
  ⟨(some 29), (.bin .leq (.t 28) (.v (.int .i64 40))), (some (26, true))⟩,
  ⟨(some 30), (.pick (.t 26) (.t 29) (.v (.bool false))), none⟩,
  ⟨(some 31), (.mv (.t 30)), none⟩,
  ⟨(some 32), (.fadr 3 1 .sc (.t 1)), (some (31, true))⟩,
  ⟨(some 33), (.load .sc 1 (.t 32)), (some (31, true))⟩,
  ⟨(some 34), (.bin .geq (.t 33) (.v (.int .i64 1))), (some (31, true))⟩,
  ⟨(some 35), (.pick (.t 31) (.t 34) (.v (.bool false))), none⟩,
  ⟨(some 36), (.mv (.t 35)), none⟩,
  ⟨(some 37), (.fadr 3 1 .sc (.t 1)), (some (36, true))⟩,
  ⟨(some 38), (.load .sc 1 (.t 37)), (some (36, true))⟩,
  ⟨(some 39), (.bin .leq (.t 38) (.v (.int .i64 80))), (some (36, true))⟩,
  ⟨(some 40), (.pick (.t 36) (.t 39) (.v (.bool false))), none⟩,
  ⟨(some 2), (.mv (.t 40)), none⟩]
def a_ref07_right : AFunc := ⟨[(.tmp 2)], (.seq (.region q_ref07_right_0) (.seq (.region q_ref07_right_1) .ret))⟩


theorem c_plan_Check : trF Try.prog Try.f60 = some a_plan_Check := by kernel_rfl
theorem g_plan_Check : Try.prog.funcs[60]? = some Try.f60 := by kernel_rfl
theorem v_plan_Check {args : List AV} {v : AV} (hn : args.length ≤ 32) (h : X Try.prog (fin a_plan_Check.res v) a_plan_Check.body .done (env0 args) H0) : Gives Try.prog F_plan_Check args v :=
  Gives_intro g_plan_Check c_plan_Check (by rw [Try.ntmps60]; exact hn) h
@[simp] theorem k_plan_Check : callable Try.prog F_plan_Check = true := by kernel_rfl
theorem c_ref07_Check : trF Try.prog Try.f65 = some a_ref07_Check := by kernel_rfl
theorem g_ref07_Check : Try.prog.funcs[65]? = some Try.f65 := by kernel_rfl
theorem v_ref07_Check {args : List AV} {v : AV} (hn : args.length ≤ 6) (h : X Try.prog (fin a_ref07_Check.res v) a_ref07_Check.body .done (env0 args) H0) : Gives Try.prog F_ref07_Check args v :=
  Gives_intro g_ref07_Check c_ref07_Check (by rw [Try.ntmps65]; exact hn) h
@[simp] theorem k_ref07_Check : callable Try.prog F_ref07_Check = true := by kernel_rfl
theorem c_ref07_right : trF Try.prog Try.f91 = some a_ref07_right := by kernel_rfl
theorem g_ref07_right : Try.prog.funcs[91]? = some Try.f91 := by kernel_rfl
theorem v_ref07_right {args : List AV} {v : AV} (hn : args.length ≤ 41) (h : X Try.prog (fin a_ref07_right.res v) a_ref07_right.body .done (env0 args) H0) : Gives Try.prog F_ref07_right args v :=
  Gives_intro g_ref07_right c_ref07_right (by rw [Try.ntmps91]; exact hn) h
@[simp] theorem k_ref07_right : callable Try.prog F_ref07_right = true := by kernel_rfl
end Go.Proofs.Ytilgdnbijkcboaa

/- The walks of the plan's functions: Check. -/
namespace Go.Proofs.Ytilgdnbijkcboaa
open Go AVL
set_option linter.unusedVariables false
set_option linter.unusedSimpArgs false

def planV (s t c a : Int) : AV := .agg [.int .i64 s, .int .i64 t, .int .i64 c, .int .i64 a]
def planOk (s t c a : Int) : Prop := (1 ≤ s ∧ s ≤ 200) ∧ (1 ≤ t ∧ t ≤ 40) ∧ (1 ≤ c ∧ c ≤ 40) ∧ (1 ≤ a ∧ a ≤ 80)
instance (s t c a : Int) : Decidable (planOk s t c a) := by unfold planOk; infer_instance
def planCode (s t c a : Int) : Int := if planOk s t c a then 0 else 2

/-- The numbers of a layout. -/
def ixN (s : Int) : Int := (2 * s + 5) / 6
def layL (s t c a : Int) : List Int :=
  [s, t, c, a, 5, 5 + ixN s, 5 + ixN s + t, 5 + ixN s + t + c, 5 + ixN s + t + c + a, 5 + ixN s + t + c + a + 1, 5 + ixN s + t + c + a + 1 + (ixN s + 9 + t), 5 + ixN s + t + c + a + 1 + (ixN s + 9 + t) + s, ixN s * 6, ixN s + 9 + t]
def layV (l : List Int) : AV := .agg (l.map (.int .i64))
def lay0 : List Int := [0, 0, 0, 0, 0, 0, 0, 0, 0, 0, 0, 0, 0, 0]
end Go.Proofs.Ytilgdnbijkcboaa

/- Abstract programs; that they are the program's. -/
namespace Go.Proofs.Ytilgdnbijkcboaa
open Go AVL
set_option linter.unusedVariables false
set_option maxRecDepth 20000

def q_super_Put_0 : List AOper := [
  ⟨(some 1), (.box 58 .ag (.t 0)), none⟩,
  ⟨(some 2), (.alloc 54 [(.iarr .u8 256 (List.replicate 256 0))]), none⟩,
  ⟨(some 3), (.mv (.v (.int .i64 0))), none⟩]
def q_super_Put_1 : List AOper := [
  ⟨(some 10), (.fadr 0 4 .ag (.t 1)), none⟩,
  ⟨(some 11), (.load .ag 4 (.t 10)), none⟩,
  ⟨(some 12), (.call F_plan_Check [(.ag, (.t 11))]), none⟩,
  ⟨(some 4), (.mv (.t 12)), none⟩]
def q_super_Put_2 : List AOper := [
  ⟨(some 13), (.mv (.t 4)), none⟩,
  ⟨(some 14), (.eq .scI true (.t 13) (.v (.int .i64 0))), none⟩]
def q_super_Put_3 : List AOper := [
  ⟨(some 15), (.build (.ia .u8 256) [(.iarr .u8 256 (List.replicate 256 0))] []), none⟩,
  ⟨(some 16), (.mv (.t 4)), none⟩,
  ⟨none, (.store (.ia .u8 256) 256 (.t 2) (.t 15)), none⟩,
  ⟨(some 3), (.mv (.t 16)), none⟩]
def q_super_Put_4 : List AOper := [
  ⟨(some 17), (.fadr 4 1 .sc (.t 1)), none⟩,
  ⟨(some 18), (.load .sc 1 (.t 17)), none⟩,
  ⟨(some 19), (.bin .lss (.t 18) (.v (.int .i64 0))), none⟩,
  ⟨(some 20), (.mv (.t 19)), none⟩,
  ⟨(some 21), (.fadr 4 1 .sc (.t 1)), (some (20, false))⟩,
  ⟨(some 22), (.load .sc 1 (.t 21)), (some (20, false))⟩,
  ⟨(some 23), (.bin .gtr (.t 22) (.v (.int .i64 1099511627776))), (some (20, false))⟩,
  ⟨(some 24), (.pick (.t 20) (.v (.bool true)) (.t 23)), none⟩]
def q_super_Put_5 : List AOper := [
  ⟨(some 25), (.build (.ia .u8 256) [(.iarr .u8 256 (List.replicate 256 0))] []), none⟩,
  ⟨none, (.store (.ia .u8 256) 256 (.t 2) (.t 25)), none⟩,
  ⟨(some 3), (.mv (.v (.int .i64 2))), none⟩]
def q_super_Put_6 : List AOper := [
  ⟨(some 26), (.call F_super_mark []), none⟩,
  ⟨(some 5), (.alloc 116 [(.iarr .u8 8 [0, 0, 0, 0, 0, 0, 0, 0])]), none⟩,
  ⟨none, (.store (.ia .u8 8) 8 (.t 5) (.t 26)), none⟩]
def q_super_Put_7 : List AOper := [
  ⟨(some 27), (.slcA 8 (.t 5) none none), none⟩,
  ⟨(some 6), (.mv (.t 27)), none⟩]
def q_super_Put_8 : List AOper := [
  ⟨(some 28), (.fadr 0 4 .ag (.t 1)), none⟩,
  ⟨(some 29), (.fadr 0 1 .sc (.t 28)), none⟩,
  ⟨(some 30), (.load .sc 1 (.t 29)), none⟩,
  ⟨(some 31), (.fadr 0 4 .ag (.t 1)), none⟩,
  ⟨(some 32), (.fadr 1 1 .sc (.t 31)), none⟩,
  ⟨(some 33), (.load .sc 1 (.t 32)), none⟩,
  ⟨(some 34), (.fadr 0 4 .ag (.t 1)), none⟩,
  ⟨(some 35), (.fadr 2 1 .sc (.t 34)), none⟩,
  ⟨(some 36), (.load .sc 1 (.t 35)), none⟩,
  ⟨(some 37), (.fadr 0 4 .ag (.t 1)), none⟩,
  ⟨(some 38), (.fadr 3 1 .sc (.t 37)), none⟩,
  ⟨(some 39), (.load .sc 1 (.t 38)), none⟩,
  ⟨(some 40), (.build (.ia .i64 4) [(.iarr .i64 4 [0, 0, 0, 0])] [(0, (1, (.t 30))), (1, (1, (.t 33))), (2, (1, (.t 36))), (3, (1, (.t 39)))]), none⟩,
  ⟨(some 41), (.mv (.v (.int .i64 0))), none⟩]
def q_super_Put_9 : List AOper := [
  ⟨(some 42), (.bin .lss (.t 41) (.v (.int .i64 4))), none⟩]
def q_super_Put_10 : List AOper := [
  ⟨(some 43), (.xx (.idxV 4 1 .sc) [(.t 40), (.t 41)]), none⟩,
  ⟨(some 8), (.mv (.t 43)), none⟩]
def q_super_Put_11 : List AOper := [
  ⟨(some 44), (.mv (.t 6)), none⟩,
  ⟨(some 45), (.mv (.t 8)), none⟩,
  ⟨(some 46), (.conv .u64 (.t 45)), none⟩,
  ⟨(some 47), (.call F_word_Put [(.sc, (.t 46)), (.sc, (.v (.int .i64 2)))]), none⟩,
  ⟨(some 48), (.appI 5 .u8 1 (.t 44) (.t 47)), none⟩,
  ⟨(some 6), (.mv (.t 48)), none⟩]
def q_super_Put_12 : List AOper := [
  ⟨(some 49), (.bin .add (.t 41) (.v (.int .i64 1))), none⟩,
  ⟨(some 41), (.mv (.t 49)), none⟩]
def q_super_Put_L13 : ACode := (.seq (.region q_super_Put_9) (.seq (.cond (.t 42) .skip (.exit 0)) (.seq (.block 1 (.seq (.region q_super_Put_10) (.region q_super_Put_11))) (.region q_super_Put_12))))
def q_super_Put_13 : List AOper := [
  ⟨(some 50), (.mv (.t 6)), none⟩,
  ⟨(some 51), (.fadr 4 1 .sc (.t 1)), none⟩,
  ⟨(some 52), (.load .sc 1 (.t 51)), none⟩,
  ⟨(some 53), (.conv .u64 (.t 52)), none⟩,
  ⟨(some 54), (.call F_word_Put [(.sc, (.t 53)), (.sc, (.v (.int .i64 8)))]), none⟩,
  ⟨(some 55), (.appI 5 .u8 1 (.t 50) (.t 54)), none⟩,
  ⟨(some 6), (.mv (.t 55)), none⟩]
def q_super_Put_14 : List AOper := [
  ⟨(some 56), (.mv (.t 6)), none⟩,
  ⟨(some 57), (.call F_word_Whole [(.sc, (.t 56))]), none⟩,
  ⟨(some 9), (.alloc 54 [(.iarr .u8 256 (List.replicate 256 0))]), none⟩,
  ⟨none, (.store (.ia .u8 256) 256 (.t 9) (.t 57)), none⟩]
def q_super_Put_15 : List AOper := [
  ⟨(some 58), (.slcA 256 (.t 9) none (some (.v (.int .i64 252)))), none⟩,
  ⟨(some 59), (.call F_crc_Sealed [(.sc, (.t 58))]), none⟩,
  ⟨(some 60), (.call F_word_Whole [(.sc, (.t 59))]), none⟩,
  ⟨none, (.store (.ia .u8 256) 256 (.t 2) (.t 60)), none⟩,
  ⟨(some 3), (.mv (.v (.int .i64 0))), none⟩]
def a_super_Put : AFunc := ⟨[(.cell 2 (.ia .u8 256) 256), (.tmp 3)], (.seq (.region q_super_Put_0) (.seq (.seq (.region q_super_Put_1) (.seq (.region q_super_Put_2) (.cond (.t 14) (.seq (.region q_super_Put_3) .ret) .skip))) (.seq (.seq (.region q_super_Put_4) (.cond (.t 24) (.seq (.region q_super_Put_5) .ret) .skip)) (.seq (.region q_super_Put_6) (.seq (.region q_super_Put_7) (.seq (.seq (.region q_super_Put_8) (.block 0 (.loop q_super_Put_L13))) (.seq (.region q_super_Put_13) (.seq (.region q_super_Put_14) (.seq (.region q_super_Put_15) .ret)))))))))⟩

def q_super_mark_0 : List AOper := [
  ⟨(some 0), (.alloc 116 [(.iarr .u8 8 [0, 0, 0, 0, 0, 0, 0, 0])]), none⟩]
def q_super_mark_1 : List AOper := [
  ⟨(some 1), (.bslI 5 .u8 [(.v (.int .u8 77)), (.v (.int .u8 79)), (.v (.int .u8 82)), (.v (.int .u8 84)), (.v (.int .u8 77)), (.v (.int .u8 65)), (.v (.int .u8 73)), (.v (.int .u8 78))]), none⟩,
  ⟨(some 2), (.xx .sealB [(.t 1)]), none⟩,
  ⟨(some 3), (.s2a 8 (.t 2)), none⟩,
  ⟨(some 4), (.load (.ia .u8 8) 8 (.t 3)), none⟩,
  ⟨none, (.store (.ia .u8 8) 8 (.t 0) (.t 4)), none⟩]
def a_super_mark : AFunc := ⟨[(.cell 0 (.ia .u8 8) 8)], (.seq (.region q_super_mark_0) (.seq (.region q_super_mark_1) .ret))⟩

theorem c_super_Put : trF Try.prog Try.f30 = some a_super_Put := by kernel_rfl
theorem g_super_Put : Try.prog.funcs[30]? = some Try.f30 := by kernel_rfl
theorem v_super_Put {args : List AV} {v : AV} (hn : args.length ≤ 61) (h : X Try.prog (fin a_super_Put.res v) a_super_Put.body .done (env0 args) H0) : Gives Try.prog F_super_Put args v :=
  Gives_intro g_super_Put c_super_Put (by rw [Try.ntmps30]; exact hn) h
@[simp] theorem k_super_Put : callable Try.prog F_super_Put = true := by kernel_rfl
theorem c_super_mark : trF Try.prog Try.f61 = some a_super_mark := by kernel_rfl
theorem g_super_mark : Try.prog.funcs[61]? = some Try.f61 := by kernel_rfl
theorem v_super_mark {args : List AV} {v : AV} (hn : args.length ≤ 5) (h : X Try.prog (fin a_super_mark.res v) a_super_mark.body .done (env0 args) H0) : Gives Try.prog F_super_mark args v :=
  Gives_intro g_super_mark c_super_mark (by rw [Try.ntmps61]; exact hn) h
@[simp] theorem k_super_mark : callable Try.prog F_super_mark = true := by kernel_rfl
end Go.Proofs.Ytilgdnbijkcboaa

/- The walk of super.Put. -/
namespace Go.Proofs.Ytilgdnbijkcboaa
open Go AVL
attribute [-simp] AV.isAgg aappI aapp alen List.reduceReplicate
set_option linter.unusedVariables false
set_option linter.unusedSimpArgs false
set_option maxRecDepth 8000

def mkN : List Nat := [77, 79, 82, 84, 77, 65, 73, 78]
/-- A super's bytes. -/
def supB (s t c a n : Nat) : List Nat := mkN ++ (le 2 s ++ (le 2 t ++ (le 2 c ++ (le 2 a ++ le 8 n))))
def zz256 : List Nat := List.replicate 256 0
def supV (s t c a n : Int) : AV := .agg [.int .i64 s, .int .i64 t, .int .i64 c, .int .i64 a, .int .i64 n]
def supC (s t c a n : Int) : Int := if planCode s t c a ≠ 0 then planCode s t c a else if n < 0 ∨ 1099511627776 < n then 2 else 0
def supS (s t c a n : Int) : List Nat := if supC s t c a n = 0 then sealN (supB s.toNat t.toNat c.toNat a.toNat n.toNat) else zz256
/-- What is written into: the mark's array at first, then a row. -/
def WrV (g5 : Nat) (A : Heap) (v : AV) (l : List Nat) (B : Heap) : Prop := (v = .asl g5 0 8 0 8 ∧ l = mkN ∧ A.Sub B) ∨ SlS T_uint8 .u8 v (ints l) A B
theorem WrV.app {g5 t5 : Nat} {A B C : Heap} {v : AV} {l ys : List Nat} {g' : Nat} {K : AV → Heap → Prop} (h5 : A g5 = some (.var t5 [.iarr .u8 8 (ints mkN)])) (h : WrV g5 A v l B) (hg' : B g' = none) (hC : C = B.set g' (.irow T_uint8 .u8 (ints ys))) (hp : 0 < ys.length) (hb : l.length + ys.length < 2 ^ 40)
    (hk : ∀ v' C', SlS T_uint8 .u8 v' (ints (l ++ ys)) A C' → v'.isAgg = false → K v' C') : aappI T_uint8 .u8 1 v (.own g' 0 ys.length) C K := by
  subst hC
  rcases h with ⟨rfl, rfl, hs⟩ | h
  · have hB5 := hs _ _ h5
    have n5 : g5 ≠ g' := fun e => by rw [e, hg'] at hB5; cases hB5
    refine aappI_arr (l := ints mkN) (ys := ints ys) (by rw [set_ne' n5]; exact hB5) rfl rfl (fun Q hQ => srcI_row set_eq' (by simp) Q hQ) (by simpa using hp) (by simp; omega) fun v' C' h1 h2 => hk v' C' ?_ h2
    rw [show ints (mkN ++ ys) = ints mkN ++ ints ys by simp]
    exact h1.base (sub_new hs hg')
  · have hl : ys.length = (ints ys).length := by simp
    rw [hl]
    refine h.app (ys := ints ys) set_eq' (sub_none hg') hg' (by simp; omega) fun v' C' h1 h2 => hk v' C' ?_ h2
    rw [show ints (l ++ ys) = ints l ++ ints ys by simp]
    exact h1
structure PutU (A : Heap) (g1 g2 g5 : Nat) (L : List Nat) (i : Nat) (env : AEnv) (B : Heap) : Prop where
  lei : i ≤ 4
  e1 : env 1 = .ptr g1 0
  e2 : env 2 = .ptr g2 0
  e40 : env 40 = .iarr .i64 4 (ints L)
  e41 : env 41 = .int .i64 i
  w : WrV g5 A (env 6) (mkN ++ ((L.take i).map (le 2)).flatten) B
end Go.Proofs.Ytilgdnbijkcboaa

/- The walks of an entry's and a sector's bytes. -/
namespace Go.Proofs.Ytilgdnbijkcboaa
open Go AVL
attribute [-simp] AV.isAgg aappI aapp alen List.reduceReplicate
attribute [simp] shp good comps
set_option linter.unusedVariables false
set_option linter.unusedSimpArgs false
set_option maxRecDepth 8000

theorem w_shelf_entry (e' : En) (h1 : 0 ≤ e'.count) (h2 : 0 ≤ e'.slot) : MakesS Try.prog F_shelf_entry [enA e'] T_uint8 .u8 (ints (encE e')) := by
  refine MakesS.of (j_shelf_entry (by simp) ?_)
  unfold a_shelf_entry
  have e32 := e'.h32
  have hc2 := e'.c2
  have hs2 := e'.s2
  obtain ⟨c, hc⟩ : ∃ c : Nat, e'.count = c := ⟨e'.count.toNat, by omega⟩
  obtain ⟨s, hs⟩ : ∃ s : Nat, e'.slot = s := ⟨e'.slot.toNat, by omega⟩
  have wc : IntKind.u64.wrap (c : Int) = (c : Int) := wrap_u64 (by omega)
  have ws : IntKind.u64.wrap (s : Int) = (s : Int) := wrap_u64 (by omega)
  have hE : enA e' = .agg [.iarr .u8 32 (ints e'.addr), .int .i64 s, .int .i64 c] := by unfold enA; rw [hc, hs]
  rw [hE]
  obtain ⟨r2, hr2⟩ : ∃ r, r = q_shelf_entry_2 := ⟨_, rfl⟩; rw [← hr2]
  obtain ⟨r3, hr3⟩ : ∃ r, r = q_shelf_entry_3 := ⟨_, rfl⟩; rw [← hr3]
  simp -implicitDefEqProofs [q_shelf_entry_0, e32]
  intro g
  obtain ⟨Y, e1, _, y1⟩ : ∃ Y : Heap, Y = H0.set g (.var 32 [.iarr .u8 32 (ints e'.addr), .int .i64 s, .int .i64 c]) ∧ True ∧ Y g = some (.var 32 [.iarr .u8 32 (ints e'.addr), .int .i64 s, .int .i64 c]) := ⟨_, rfl, trivial, set_eq'⟩
  rw [← e1]; clear e1
  simp -implicitDefEqProofs [q_shelf_entry_1, y1, wc, ws]
  refine (w_word_Put (n := c) (m := 6) (by omega) (by decide)).call (.cons (.refl _) rfl (.cons (.refl _) rfl .nil)) rfl fun g7 h7 => ?_
  have n17 : ¬ g = g7 := fun e => by rw [← e, y1] at h7; cases h7
  simp -implicitDefEqProofs [n17]
  have k7 : SlS T_uint8 .u8 (.own g7 0 6) (ints (le 6 c)) Y (Y.set g7 (.irow T_uint8 .u8 (ints (le 6 c)))) := SlS.one h7 (by simp)
  obtain ⟨Z, hZ⟩ : ∃ Z, Z = Y.set g7 (.irow T_uint8 .u8 (ints (le 6 c))) := ⟨_, rfl⟩
  rw [← hZ] at k7 ⊢
  clear hZ
  refine (w_word_Put (n := s) (m := 2) (by omega) (by decide)).call (.cons (.refl _) rfl (.cons (.refl _) rfl .nil)) rfl fun g11 h11 => ?_
  have k11 : SlS T_uint8 .u8 (.own g11 0 2) (ints (le 2 s)) Z (Z.set g11 (.irow T_uint8 .u8 (ints (le 2 s)))) := SlS.one h11 (by simp)
  obtain ⟨W, hW⟩ : ∃ W, W = Z.set g11 (.irow T_uint8 .u8 (ints (le 2 s))) := ⟨_, rfl⟩
  rw [← hW] at k11 ⊢
  clear hW
  simp -implicitDefEqProofs
  refine (k7.mono k11.sub).appS (Sub_refl _) (k11.src (Sub_refl _)) (by simp) fun w1 D1 m1 a1 => ?_
  have s1 := m1.scl
  have d1 := m1.sub _ _ y1
  simp -implicitDefEqProofs [a1]
  simp -implicitDefEqProofs [hr2, q_shelf_entry_2, d1, s1.shp, s1.good, s1.comps, s1.agg]
  refine m1.appS (ys := ints e'.addr) (Sub_refl _) (fun Q hQ => by simp [d1, e32]; rw [List.take_of_length_le (by rw [e32]; exact Nat.le_refl _)]; exact hQ) (by simp [e32]) fun w2 D2 m2 a2 => ?_
  have s2 := m2.scl
  simp -implicitDefEqProofs [a2]
  simp -implicitDefEqProofs [hr3, q_shelf_entry_3, s2.shp, s2.good, s2.comps, s2.agg]
  intro g18 h18
  refine m2.appS (ys := [0, 0]) (sub_none h18) (srcI_row set_eq' rfl) (by simp [e32]) fun w3 D3 m3 a3 => ?_
  simp -implicitDefEqProofs [a3, outOf]
  have e : encE e' = le 6 c ++ le 2 s ++ e'.addr ++ [0, 0] := by
    unfold encE
    rw [hc, hs]
    simp
  rw [e]
  have := m3.base (H0_sub Y)
  have e2 : ints (le 6 c ++ le 2 s ++ e'.addr ++ [0, 0]) = ints (le 6 c ++ le 2 s ++ e'.addr) ++ [0, 0] := by unfold ints; rw [List.map_append]; rfl
  rw [e2]
  simpa only [ints_append] using this
structure SeI (g2 : Nat) (l : List En) (Y : Heap) (i : Nat) (env : AEnv) (B : Heap) : Prop where
  le : i ≤ l.length
  e2 : env 2 = .ptr g2 0
  e7 : env 7 = .dsl 34 (l.map enA)
  e8 : env 8 = .int .i64 l.length
  e9 : env 9 = .int .i64 i
  w : SlS T_uint8 .u8 (env 3) (ints (bytesE (l.take i))) Y B
theorem w_shelf_sector (l : List En) (h6 : l.length = 6) (hp : ∀ e ∈ l, 0 ≤ e.count ∧ 0 ≤ e.slot) : Gives Try.prog F_shelf_sector [.dsl 34 (l.map enA)] (.iarr .u8 256 (ints (secE l))) := by
  refine v_shelf_sector (by simp) ?_
  unfold a_shelf_sector
  obtain ⟨r7, hr7⟩ : ∃ r, r = q_shelf_sector_7 := ⟨_, rfl⟩; rw [← hr7]
  obtain ⟨r8, hr8⟩ : ∃ r, r = q_shelf_sector_8 := ⟨_, rfl⟩; rw [← hr8]
  simp -implicitDefEqProofs [q_shelf_sector_0, q_shelf_sector_1, q_shelf_sector_2]
  intro g2
  obtain ⟨Y, e1, _, y2⟩ : ∃ Y : Heap, Y = H0.set g2 (.var 54 [.iarr .u8 256 (List.replicate 256 0)]) ∧ True ∧ Y g2 = some (.var 54 [.iarr .u8 256 (List.replicate 256 0)]) := ⟨_, rfl, trivial, set_eq'⟩
  rw [← e1]; clear e1
  refine X_lp (SeI g2 l Y) (fun i => l.length - i) 0 ⟨by omega, by simp, by simp, by simp, by simp, by simpa [bytesE] using SlS.nil (Sub_refl Y)⟩ ?_
  rintro i env B ⟨hi, f2, f7, f8, f9, hw⟩
  rw [q_shelf_sector_L7]
  obtain ⟨r5, hr5⟩ : ∃ r, r = q_shelf_sector_5 := ⟨_, rfl⟩; rw [← hr5]
  obtain ⟨r6, hr6⟩ : ∃ r, r = q_shelf_sector_6 := ⟨_, rfl⟩; rw [← hr6]
  simp -implicitDefEqProofs [q_shelf_sector_3, f8, f9]
  refine ⟨fun hlt => ?_, fun hge => ?_⟩
  · have hlt' : (i : Int) < l.length := by omega
    obtain ⟨e, he⟩ : ∃ e, e = l[i] := ⟨_, rfl⟩
    have hep := hp e (by rw [he]; exact List.getElem_mem hlt)
    have e32 := e.h32
    have hE : enA e = .agg [.iarr .u8 32 (ints e.addr), .int .i64 e.slot, .int .i64 e.count] := rfl
    simp -implicitDefEqProofs [q_shelf_sector_4, f7, f9, hlt, hlt']
    rw [← he]
    rw [hE]
    simp -implicitDefEqProofs [e32]
    intro g5 hg5
    obtain ⟨C, e1, kC, c5⟩ : ∃ C : Heap, C = B.set g5 (.var 32 [.iarr .u8 32 (ints e.addr), .int .i64 e.slot, .int .i64 e.count]) ∧ B.Sub C ∧ C g5 = some (.var 32 [.iarr .u8 32 (ints e.addr), .int .i64 e.slot, .int .i64 e.count]) := ⟨_, rfl, sub_none hg5, set_eq'⟩
    rw [← e1]; clear e1
    have hw' := hw.mono kC
    have hs := hw.scl
    have hent := w_shelf_entry e hep.1 hep.2
    rw [hE] at hent
    simp -implicitDefEqProofs [hr5, q_shelf_sector_5, c5, e32]
    refine hent.call (.cons (.refl _) rfl .nil) fun v D hv => ?_
    have hsv := hv.scl
    simp -implicitDefEqProofs [hsv.shp, hsv.good, hsv.comps, hsv.agg, hs.shp, hs.good, hs.comps, hs.agg]
    refine (hw'.mono hv.sub).appS (Sub_refl _) (hv.src (Sub_refl _)) (by simp [bytesE_len]; omega) fun w2 D2 m2 a2 => ?_
    simp -implicitDefEqProofs [a2]
    have wi : IntKind.i64.wrap ((i : Int) + 1) = ((i + 1 : Nat) : Int) := by rw [wrap_i64 (by omega)]; simp
    simp -implicitDefEqProofs [hr6, q_shelf_sector_6, f9, wi, -Int.natCast_add]
    refine lp_next (i + 1) ⟨by omega, by simp [f2], by simp [f7], by simp [f8], by simp, ?_⟩ (by omega)
    rw [List.take_succ_eq_append_getElem hlt, ← he, bytesE_snoc]
    simpa using m2
  · have hil : i = l.length := by omega
    subst hil
    rw [List.take_of_length_le (Nat.le_refl _)] at hw
    have hs' := hw.scl
    have hB2 := hw.sub _ _ y2
    have hbb := bytesE_bytes l
    have hbl : (bytesE l).length = 252 := by rw [bytesE_len, h6]
    unfold secE
    obtain ⟨b, hb⟩ : ∃ b, b = bytesE l := ⟨_, rfl⟩
    rw [← hb] at hw hbb hbl ⊢
    simp -implicitDefEqProofs [hr7, q_shelf_sector_7, hs'.shp, hs'.good, hs'.comps, hs'.agg]
    refine (w_word_Whole hbb).call (.cons hw.vw hs'.agg .nil) rfl ?_
    have hwl := whole_len b
    simp -implicitDefEqProofs [hwl]
    intro g9 hg9
    have n92 : ¬ g2 = g9 := fun e => by rw [← e, hB2] at hg9; cases hg9
    obtain ⟨Z, hZ⟩ : ∃ Z, Z = B.set g9 (.var 54 [.iarr .u8 256 (ints (whole b))]) := ⟨_, rfl⟩
    try simp only [← hZ]
    have z9 : Z g9 = some (.var 54 [.iarr .u8 256 (ints (whole b))]) := by rw [hZ, set_eq']
    have z2 : Z g2 = some (.var 54 [.iarr .u8 256 (List.replicate 256 0)]) := by rw [hZ, set_ne' n92]; exact hB2
    clear hZ
    have hwb := whole_bytes hbb
    have hv9 := vw_arr (n := 252) z9 (by simp [hwl])
    rw [ints_take] at hv9
    simp -implicitDefEqProofs [hr8, q_shelf_sector_8]
    refine (w_crc_Sealed ((whole b).take 252) (bytes_take hwb 252) (by simp; omega)).call (.cons hv9 rfl .nil) rfl fun g10 hg10 => ?_
    have hwo := sealN_whole (b := b) (by omega)
    have hsb : Bytes ((whole b).take 252 ++ fourN (moreN 0 ((whole b).take 252))) := bytes_append (bytes_take hwb 252) (bytes_four _)
    have z2' : ∀ cc, (Z.set g10 cc) g2 = some (.var 54 [.iarr .u8 256 (List.replicate 256 0)]) := fun cc => by
      rw [set_ne' (fun e => by rw [← e, z2] at hg10; cases hg10)]; exact z2
    have l4 : (fourN (moreN 0 ((whole b).take 252))).length = 4 := rfl
    have hlw : ((whole b).take 252).length = 252 := by rw [List.length_take, hwl]; rfl
    have hsl := sealN_len b
    have hv := vw_irow (A := Z.set g10 (.irow 5 .u8 (ints ((whole b).take 252 ++ fourN (moreN 0 ((whole b).take 252)))))) set_eq' (n := min 252 (whole b).length + 4) (by simp [l4])
    have hw2 := w_word_Whole hsb
    rw [hwo] at hw2
    simp -implicitDefEqProofs
    refine hw2.call (.cons hv rfl .nil) rfl ?_
    simp -implicitDefEqProofs [f2, z2', hsl, outOf]
end Go.Proofs.Ytilgdnbijkcboaa

/- A table is looked into. -/
namespace Go.Proofs.Ytilgdnbijkcboaa
open Go AVL
set_option linter.unusedVariables false
set_option linter.unusedSimpArgs false
set_option maxRecDepth 8000

theorem TS.pl_nxt' {α κ : Type} {S : TS α κ} {x : α} {k : Nat} (h : k < S.n) : S.nxt (S.pl x k) = S.pl x (k + 1) := by
  have := S.hm_lt (S.key x); unfold TS.pl TS.nxt; (repeat' split) <;> omega
/-- Where an address stands. -/
def FindV (n : Nat) (L : List En) (b : List Nat) (v : Int) : Prop :=
  (∃ i : Nat, v = i ∧ i < n + 1 ∧ ((tS n).fn L i).count ≠ 0 ∧ ((tS n).fn L i).addr = b) ∨ (v = -1 ∧ ∀ i, i < n + 1 → ((tS n).fn L i).count ≠ 0 → ((tS n).fn L i).addr ≠ b)
structure FdI (n : Nat) (L : List En) (k : Int) (x : En) (g3 : Nat) (d : Nat) (env : AEnv) (B : Heap) : Prop where
  le : d ≤ n + 1
  fi : TS.Fi (S := tS n) ((tS n).fn L) x d
  e0 : env 0 = tabV L k
  e3 : env 3 = .ptr g3 0
  e5 : env 5 = .int .i64 ((tS n).pl x d : Nat)
  e19 : env 19 = .int .i64 L.length
  e20 : env 20 = .int .i64 d
  f3 : B g3 = some (.var T_32_uint8 [.iarr .u8 32 (ints x.addr)])
theorem eqA_ints {a b : List Nat} : ints a = ints b ↔ a = b := by
  constructor
  · intro h
    have := congrArg (List.map Int.toNat) h
    simpa [ints, List.map_map, Function.comp_def] using this
  · rintro rfl; rfl
theorem eqA {a b : List Nat} (ha : a.length = 32) (hb : b.length = 32) : eqI 32 (ints a) (ints b) = decide (a = b) := by
  rw [eqI_iff (by simpa using ha) (by simpa using hb)]
  exact decide_eq_decide.2 eqA_ints
section
variable {n : Nat} {L r : List En} {k : Int}
theorem w_table_find (hT : (tS n).Tab L r) (hn : n < 2 ^ 40) (x : En) {v : Int} (hv : FindV n L x.addr v) : Gives Try.prog F_Ptable_Table_find [tabV L k, .iarr .u8 32 (ints x.addr)] (.int .i64 v) := by
  have hL : L.length = n + 1 := hT.len
  have habs : ∀ d, TS.Fi (S := tS n) ((tS n).fn L) x d → d ≤ n + 1 → (d = n + 1 ∨ (tS n).emp ((tS n).fn L ((tS n).pl x d)) = true ∨ ((tS n).key ((tS n).fn L ((tS n).pl x d)) ≠ (tS n).key x ∧ (tS n).beats x ((tS n).fn L ((tS n).pl x d)) ((tS n).pl x d))) → v = -1 := by
    intro d hd hl hc
    have ha := TS.Fi.absent hT.ok hd hl hc
    rcases hv with ⟨i, rfl, hi, h1, h2⟩ | ⟨rfl, _⟩
    · exact absurd h2 (ha i hi (decide_eq_false h1))
    · rfl
  refine v_Ptable_Table_find (by simp) ?_
  have hx32 := x.h32
  obtain ⟨q, hq⟩ : ∃ q, q = hmN (n + 1) x.addr := ⟨_, rfl⟩
  have hm := homV_eq (n := n + 1) (by omega) x.addr
  have hd := w_digest_Home x.hb x.h32 (o := (L.length : Int)) (by omega) (by omega)
  rw [← hq, ← hL] at hm
  rw [hm] at hd
  simp -implicitDefEqProofs [a_Ptable_Table_find, q_Ptable_Table_find_0, q_Ptable_Table_find_1, hx32, tabV]
  intro g3
  refine hd.call (.cons (.refl _) rfl (.cons (.refl _) rfl .nil)) rfl ?_
  simp -implicitDefEqProofs [q_Ptable_Table_find_2]
  refine X_lp (FdI n L k x g3) (fun d => n + 1 - d) 0
    ⟨by omega, .zero, by simp [tabV], by simp, by simp [TS.pl_zero, hq]; rfl, by simp, by simp, by simp⟩ ?_
  rintro d env B ⟨hdl, hfi, e0, e3, e5, e19, e20, f3⟩
  unfold tabV at e0
  simp -implicitDefEqProofs [q_Ptable_Table_find_L14, q_Ptable_Table_find_3, e19, e20]
  refine ⟨fun hlt => ?_, fun hge => ?_⟩
  · have hdn : d < n + 1 := by omega
    obtain ⟨p, hp⟩ : ∃ p, p = (tS n).pl x d := ⟨_, rfl⟩
    have hpn : p < n + 1 := by rw [hp]; exact TS.pl_lt hdn
    have hpl : p < L.length := by omega
    have hpi : (p : Int) < L.length := by omega
    have hfar : (tS n).far x p = d := by rw [hp]; exact TS.far_pl hdn
    have hnx := TS.pl_nxt' (S := tS n) (x := x) (k := d) hdn
    rw [← hp] at e5 hnx
    have hfn : (tS n).fn L p = L[p] := tS_fn hpl
    have habs' := habs d hfi hdl
    rw [← hp, hfn] at habs'
    have hy := w_table_yields (k := k) hL hn (a := p) (d := d) hpn (by omega) x.h32
    rw [hfn] at hy
    have hc32 := L[p].h32
    obtain ⟨a1, ha1⟩ : ∃ a, a = L[p].addr := ⟨_, rfl⟩
    obtain ⟨s1, hs1⟩ : ∃ s, s = L[p].slot := ⟨_, rfl⟩
    obtain ⟨c1, hc1⟩ : ∃ c, c = L[p].count := ⟨_, rfl⟩
    have hE : enA L[p] = .agg [.iarr .u8 32 (ints a1), .int .i64 s1, .int .i64 c1] := by rw [ha1, hs1, hc1]; rfl
    obtain ⟨r6, h6⟩ : ∃ r, r = q_Ptable_Table_find_6 := ⟨_, rfl⟩; rw [← h6]
    simp -implicitDefEqProofs [q_Ptable_Table_find_4, q_Ptable_Table_find_5, e0, e5, e20, hpl, hpi]
    rw [hE]
    simp -implicitDefEqProofs
    intro g hg
    have hne : ¬ g3 = g := fun e => by subst e; rw [f3] at hg; cases hg
    simp -implicitDefEqProofs [h6, q_Ptable_Table_find_6]
    have hA : a1.length = 32 := by rw [ha1]; exact L[p].h32
    refine ⟨fun hc0 => ?_, fun hc0 => ?_⟩
    · have := habs' (.inr (.inl (decide_eq_true (by rw [← hc1]; exact hc0))))
      simp -implicitDefEqProofs [q_Ptable_Table_find_7, a_Ptable_Table_find, outOf, this]
    · simp -implicitDefEqProofs [q_Ptable_Table_find_8, e3, f3, hne, eqA hA hx32]
      refine ⟨fun hax => ?_, fun hax => ?_⟩
      · have : v = p := by
          rcases hv with ⟨i, rfl, hi, h1, h2⟩ | ⟨rfl, h⟩
          · have := hT.dist i p hi hpn (decide_eq_false h1) (by rw [hfn]; exact decide_eq_false (by rw [← hc1]; exact hc0)) (by
              show ((tS n).fn L i).addr = ((tS n).fn L p).addr
              rw [h2, hfn, ← ha1, hax])
            omega
          · exact absurd (show ((tS n).fn L p).addr = x.addr by rw [hfn, ← ha1, hax]) (h p hpn (by rw [hfn, ← hc1]; exact hc0))
        simp -implicitDefEqProofs [q_Ptable_Table_find_9, e5, a_Ptable_Table_find, outOf, this]
      · simp -implicitDefEqProofs [q_Ptable_Table_find_10, e0, e3, e5, f3, hne]
        have hk1 : ((tS n).key L[p]) ≠ (tS n).key x := fun e => hax (by rw [ha1]; exact e)
        unfold tabV at hy
        refine hy.call (.cons (.refl _) rfl (.cons (.refl _) rfl (.cons (.refl _) rfl (.cons (.refl _) rfl .nil)))) rfl ?_
        by_cases hP : (tS n).far L[p] p < d ∨ ((tS n).far L[p] p = d ∧ lessL x.addr L[p].addr = true)
        · have hb : (tS n).beats x L[p] p := by unfold TS.beats; rw [hfar]; exact hP
          have := habs' (.inr (.inr ⟨hk1, hb⟩))
          rw [decide_eq_true hP]
          simp -implicitDefEqProofs [q_Ptable_Table_find_11, a_Ptable_Table_find, outOf, this]
        · have hb : ¬ (tS n).beats x L[p] p := by unfold TS.beats; rw [hfar]; exact hP
          rw [decide_eq_false hP]
          have hfi' := hfi.next (by rw [← hp, hfn]; exact decide_eq_false (by rw [← hc1]; exact hc0)) (by rw [← hp, hfn]; exact hk1) (by rw [← hp, hfn]; exact hb)
          have hw1 : IntKind.i64.wrap ((p : Int) + 1) = (p : Int) + 1 := wrap_i64 (by omega)
          have hw2 : IntKind.i64.wrap ((d : Int) + 1) = (d : Int) + 1 := wrap_i64 (by omega)
          have e2 := nxt_eq hpn
          rw [hnx, ← hL] at e2
          have hpn1 := TS.pl_lt (S := tS n) (x := x) (d := d)
          obtain ⟨p1, hp1⟩ : ∃ p1, p1 = (tS n).pl x (d + 1) := ⟨_, rfl⟩
          have hp1l : p1 < n + 1 := by rw [hp1, ← hnx]; exact TS.nxt_lt hpn
          rw [← hp1] at e2
          have hw3 : IntKind.i64.wrap (p1 : Int) = (p1 : Int) := wrap_i64 (by omega)
          have hne0 : ¬ L = [] := fun e => by rw [e] at hL; simp at hL
          have hne1 : ¬ (L.length : Int) = 0 := by omega
          obtain ⟨r13, h13⟩ : ∃ r, r = q_Ptable_Table_find_13 := ⟨_, rfl⟩; rw [← h13]
          simp -implicitDefEqProofs [q_Ptable_Table_find_12, e0, e5, hw1, e2, hw3, hne0, hne1]
          simp -implicitDefEqProofs [h13, q_Ptable_Table_find_13, e20, hw2]
          exact lp_next (d + 1) ⟨by omega, hfi', by simp [e0, tabV], by simp [e3], by simp [hp1], by simp [e19], by simp, by simp [f3, hne]⟩ (by omega)
  · have := habs d hfi hdl (.inl (by omega))
    simp -implicitDefEqProofs [q_Ptable_Table_find_14, a_Ptable_Table_find, outOf, this]
end
end Go.Proofs.Ytilgdnbijkcboaa

/- A table is asked. -/
namespace Go.Proofs.Ytilgdnbijkcboaa
open Go AVL
set_option linter.unusedVariables false
set_option linter.unusedSimpArgs false
set_option maxRecDepth 8000

theorem w_table_Len (L : List En) (k : Int) : Gives Try.prog F_Ptable_Table_Len [tabV L k] (.int .i64 k) := by
  refine v_Ptable_Table_Len (by simp) ?_
  simp -implicitDefEqProofs [a_Ptable_Table_Len, q_Ptable_Table_Len_0, q_Ptable_Table_Len_1, tabV, outOf]
theorem w_table_Size (L : List En) (k : Int) : Gives Try.prog F_Ptable_Table_Size [tabV L k] (.int .i64 L.length) := by
  refine v_Ptable_Table_Size (by simp) ?_
  simp -implicitDefEqProofs [a_Ptable_Table_Size, q_Ptable_Table_Size_0, q_Ptable_Table_Size_1, tabV, outOf]
theorem sub_H0 (A : Heap) : H0.Sub A := fun g c h => by cases h
theorem en_sts : ∀ L : List En, AV.sts (L.map enA) = true
  | [] => rfl
  | e :: L => by simp only [List.map_cons, AV.sts, en_sts L, Bool.and_true]; rfl
theorem w_table_Places (L : List En) (k : Int) (hl : L.length < 2 ^ 40) : MakesR Try.prog F_Ptable_Table_Places [tabV L k] T_api_Entry 34 (L.map enA) := by
  refine MakesR.of (j_Ptable_Table_Places (by simp) ?_)
  simp -implicitDefEqProofs [a_Ptable_Table_Places, q_Ptable_Table_Places_0, q_Ptable_Table_Places_1, tabV]
  intro g
  refine ⟨en_sts L, by omega, fun g' h1 h2 => ⟨sub_H0 _, .inr ⟨g', by simp, rfl, set_eq'⟩⟩⟩
/-- The entry of an address, if there is one. -/
def GetV (n : Nat) (L : List En) (b : List Nat) (e : En) (is : Bool) : Prop :=
  (is = true ∧ ∃ i : Nat, i < n + 1 ∧ (tS n).fn L i = e ∧ e.count ≠ 0 ∧ e.addr = b) ∨ (is = false ∧ e = enZ ∧ ∀ i, i < n + 1 → ((tS n).fn L i).count ≠ 0 → ((tS n).fn L i).addr ≠ b)
section
variable {n : Nat} {L r : List En} {k : Int}
theorem w_table_Get (hT : (tS n).Tab L r) (hn : n < 2 ^ 40) (x : En) {e : En} {is : Bool} (hv : GetV n L x.addr e is) : Gives Try.prog F_Ptable_Table_Get [tabV L k, .iarr .u8 32 (ints x.addr)] (.tuple [enA e, .bool is]) := by
  refine v_Ptable_Table_Get (by simp) ?_
  have hL : L.length = n + 1 := hT.len
  have hx32 := x.h32
  simp -implicitDefEqProofs [-List.reduceReplicate, a_Ptable_Table_Get, q_Ptable_Table_Get_0, q_Ptable_Table_Get_1, hx32]
  intro g3 g4 n1 n2
  simp -implicitDefEqProofs [-List.reduceReplicate, n1, n2, hx32]
  rcases hv with ⟨rfl, i, hi, he, hc, hb⟩ | ⟨rfl, rfl, ha⟩
  · refine (w_table_find (k := k) hT hn x (v := i) (.inl ⟨i, rfl, hi, by rw [he]; exact hc, by rw [he]; exact hb⟩)).call (.cons (.refl _) rfl (.cons (.refl _) rfl .nil)) rfl ?_
    have hal : i < L.length := by omega
    have hii : (i : Int) < L.length := by omega
    rw [tS_fn hal] at he
    have hE : enA L[i] = .agg [.iarr .u8 32 (ints e.addr), .int .i64 e.slot, .int .i64 e.count] := by rw [he]; rfl
    have hn0 : ¬ (i : Int) < 0 := by omega
    simp -implicitDefEqProofs [-List.reduceReplicate, q_Ptable_Table_Get_2, hn0]
    simp -implicitDefEqProofs [-List.reduceReplicate, q_Ptable_Table_Get_4, tabV, hal, hii]
    rw [hE]
    simp -implicitDefEqProofs [-List.reduceReplicate, n1, n2, outOf, enA]
  · refine (w_table_find (k := k) hT hn x (v := -1) (.inr ⟨rfl, ha⟩)).call (.cons (.refl _) rfl (.cons (.refl _) rfl .nil)) rfl ?_
    simp -implicitDefEqProofs [-List.reduceReplicate, q_Ptable_Table_Get_2, q_Ptable_Table_Get_3, n1, n2, outOf, enA, enZ, z32]
    simp [ints]
end
/-- The first entry of a slot. -/
def sltL (L : List En) (s : Int) : Option En := L.find? fun e => decide (0 < e.count ∧ e.slot = s)
structure SltI (L : List En) (k s : Int) (g4 : Nat) (j : Nat) (env : AEnv) (B : Heap) : Prop where
  le : j ≤ L.length
  no : sltL L s = sltL (L.drop j) s
  e1 : env 1 = .int .i64 s
  e4 : env 4 = .ptr g4 0
  e11 : env 11 = .dsl 34 (L.map enA)
  e12 : env 12 = .int .i64 L.length
  e13 : env 13 = .int .i64 j
  f4 : B g4 = some (.var T_api_Entry [.iarr .u8 32 (List.replicate 32 0), .int .i64 0, .int .i64 0])
/-- The farthest. -/
def lngL (n : Nat) (L : List En) (j : Nat) : Nat := (List.range j).foldl (fun m i => if 0 < ((tS n).fn L i).count then max m ((tS n).far ((tS n).fn L i) i) else m) 0
structure LngI (n : Nat) (L : List En) (k : Int) (j : Nat) (env : AEnv) (B : Heap) : Prop where
  le : j ≤ L.length
  e0 : env 0 = tabV L k
  e3 : env 3 = .int .i64 (lngL n L j : Nat)
  e9 : env 9 = .dsl 34 (L.map enA)
  e10 : env 10 = .int .i64 L.length
  e11 : env 11 = .int .i64 j
end Go.Proofs.Ytilgdnbijkcboaa

/- A table is made, copied, changed. -/
namespace Go.Proofs.Ytilgdnbijkcboaa
open Go AVL
set_option linter.unusedVariables false
set_option linter.unusedSimpArgs false
set_option maxRecDepth 8000

/-- A table in memory. -/
structure TbI (t h : Nat) (L : List En) (k : Int) (B : Heap) : Prop where
  ct : B t = some (.var T_table_Table [.own h 0 L.length, .int .i64 k])
  ch : B h = some (.row T_api_Entry 34 (L.map enA))
theorem TbI.ne {t h : Nat} {L : List En} {k : Int} {B : Heap} (hi : TbI t h L k B) : t ≠ h := fun e => by
  have h1 := hi.ct; rw [e, hi.ch] at h1; cases h1
theorem TbI.vw {t h : Nat} {L : List En} {k : Int} {B : Heap} (hi : TbI t h L k B) : Vw B (.ptr t 0) (tabV L k) := tab_vw hi.ct hi.ch
theorem TbI.mono {t h : Nat} {L : List En} {k : Int} {B C : Heap} (hi : TbI t h L k B) (hs : B.Sub C) : TbI t h L k C := ⟨hs _ _ hi.ct, hs _ _ hi.ch⟩
/-- All but the table stays. -/
def Keep (t h : Nat) (A B : Heap) : Prop := ∀ x c, x ≠ t → x ≠ h → A x = some c → B x = some c
theorem Keep.of {t h : Nat} {A B : Heap} (hs : A.Sub B) : Keep t h A B := fun x c _ _ hx => hs _ _ hx
theorem Keep.trans {t h : Nat} {A B C : Heap} (h1 : Keep t h A B) (h2 : Keep t h B C) : Keep t h A C := fun x c a b hx => h2 x c a b (h1 x c a b hx)
theorem en_noFs : ∀ L : List En, AV.noFs (L.map enA) = true
  | [] => rfl
  | e :: L => by simp only [List.map_cons, AV.noFs, en_noFs L, Bool.and_true]; rfl
section
variable {A : Heap} {K Kp : AV → Heap → Prop}
theorem enA_Z : (.agg [.iarr .u8 32 (List.replicate 32 0), .int .i64 0, .int .i64 0] : AV) = enA enZ := by
  simp [enA, enZ, z32, ints]
theorem w_table_New {n : Int} (hk0 : (n < 1 ∨ 406 < n) → K (.tuple [.nilP, .int .i64 2]) A)
    (hk : 1 ≤ n → n ≤ 406 → ∀ t h B, A t = none → A h = none → TbI t h (List.replicate n.toNat enZ) 0 B → A.Sub B → K (.tuple [.ptr t 0, .int .i64 0]) B) : SimX Try.prog F_table_New [.int .i64 n] A (outK K Kp) := by
  refine j_table_New (by simp) ?_
  by_cases h1 : n < 1
  · simp -implicitDefEqProofs [a_table_New, q_table_New_0, q_table_New_1, q_table_New_2, h1, outOf]
    exact hk0 (.inl h1)
  · by_cases h2 : 406 < n
    · have h2' : n > 406 := h2
      simp -implicitDefEqProofs [a_table_New, q_table_New_0, q_table_New_1, q_table_New_2, h1, h2, outOf]
      exact hk0 (.inr h2)
    · have h0 : 0 ≤ n := by omega
      have h3 : n * 48 ≤ 140737488355328 := by omega
      simp -implicitDefEqProofs [-List.reduceReplicate, a_table_New, q_table_New_0, q_table_New_1, q_table_New_3, h1, h2, h0, h3, outOf]
      intro h hh t n1 n2 ht
      refine hk (by omega) (by omega) t h _ ht hh ⟨?_, ?_⟩ ?_
      · rw [set_eq']; simp [h0]; try omega
      · rw [set_ne' (by first | exact n1 | exact n2 | exact fun e => n1 e.symm | exact fun e => n2 e.symm), set_eq', List.map_replicate, enA_Z]
      · exact sub_new (sub_none hh) (by simp [set_app, *])
end
/-! putting -/
theorem setEl_en (e f : En) : setEl (.agg [.iarr .u8 32 (ints e.addr), .int .i64 e.slot, .int .i64 e.count]) 0 34 (.agg [.iarr .u8 32 (ints f.addr), .int .i64 f.slot, .int .i64 f.count]) = some (.agg [.iarr .u8 32 (ints f.addr), .int .i64 f.slot, .int .i64 f.count]) := by
  have h1 := e.h32
  have h2 := f.h32
  simp [setEl, setC, AV.sizes, AV.size]
def rightE (e : En) : Prop := 1 ≤ e.count ∧ e.count ≤ 1099511627776 ∧ 0 ≤ e.slot ∧ e.slot < 200
instance (e : En) : Decidable (rightE e) := by unfold rightE; exact inferInstance
def putC (n : Nat) (r : List En) (e : En) : Int := if ¬rightE e then 2 else if ∃ x ∈ r, x.addr = e.addr then 0 else if n < r.length + 1 then 6 else 0
def putT (n : Nat) (r : List En) (e : En) : List En := if putC n r e = 0 then (tS n).putR e r else r
end Go.Proofs.Ytilgdnbijkcboaa

/- Put. -/
namespace Go.Proofs.Ytilgdnbijkcboaa
open Go AVL
set_option linter.unusedVariables false
set_option linter.unusedSimpArgs false
set_option maxRecDepth 8000

structure PutI (n t h g3 c : Nat) (r : List En) (A : Heap) (s : List En × En × Nat) (env : AEnv) (B : Heap) : Prop where
  car : TS.CarL (tS n) s.1 s.2.1 s.2.2 r
  cl : c < n + 1
  ce : (tS n).emp ((tS n).fn s.1 c) = true
  e0 : env 0 = .ptr t 0
  e3 : env 3 = .ptr g3 0
  e6 : env 6 = .int .i64 s.2.2
  e7 : env 7 = .int .i64 ((tS n).far s.2.1 s.2.2 : Nat)
  hi : TbI t h s.1 r.length B
  f3 : B g3 = some (.var T_api_Entry [.iarr .u8 32 (ints s.2.1.addr), .int .i64 s.2.1.slot, .int .i64 s.2.1.count])
  kp : Keep t h A B
section
variable {A : Heap} {K Kp : AV → Heap → Prop} {n t h : Nat} {L r : List En}
/-- The loop, and what is behind it. -/
theorem put_loop (hn : n < 2 ^ 40) {g3 c : Nat} {r : List En} (hpos : ∀ x ∈ r, 0 < x.count) (hg3 : A g3 = none) (ht3 : t ≠ g3) (hh3 : h ≠ g3) {s : List En × En × Nat} {env : AEnv} {B : Heap} (h0 : PutI n t h g3 c r A s env B) {R : APost}
    (hk : ∀ env' B' L', TS.Tab (tS n) L' r → TbI t h L' r.length B' → Keep t h A B' → X Try.prog R (.seq (.region q_Ptable_Table_Put_17) .ret) .done env' B') :
    X Try.prog R (.seq (.block 0 (.loop q_Ptable_Table_Put_L16)) (.seq (.regionD q_Ptable_Table_Put_16) (.seq (.region q_Ptable_Table_Put_17) .ret))) .done env B := by
  simp -implicitDefEqProofs
  refine X_lp (PutI n t h g3 c r A) (fun s => (tS n).gap c s.2.2) s h0 ?_
  rintro ⟨M, now, at_⟩ env B ⟨car, cl, ce, e0, e3, e6, e7, hi, f3, kp⟩
  simp only at car ce e6 e7 hi f3
  have hlt : at_ < n + 1 := car.car.lt
  have hM : M.length = n + 1 := car.len
  have hal : at_ < M.length := by omega
  have hai : (at_ : Int) < M.length := by omega
  have ct := hi.ct
  have ch := hi.ch
  have hfn : (tS n).fn M at_ = M[at_] := tS_fn hal
  obtain ⟨e, he⟩ : ∃ e, e = M[at_] := ⟨_, rfl⟩
  have hE : enA M[at_] = .agg [.iarr .u8 32 (ints e.addr), .int .i64 e.slot, .int .i64 e.count] := by rw [he]; rfl
  have hce : 0 ≤ e.count := by
    rcases Decidable.em (e.count = 0) with h1 | h1
    · omega
    · have := hpos e ((car.has e).1 (.inr ⟨at_, hlt, by rw [hfn, he], decide_eq_false h1⟩))
      omega
  rw [q_Ptable_Table_Put_L16]
  obtain ⟨r12, h12⟩ : ∃ r, r = q_Ptable_Table_Put_12 := ⟨_, rfl⟩; rw [← h12]
  obtain ⟨r16, h16⟩ : ∃ r, r = q_Ptable_Table_Put_16 := ⟨_, rfl⟩; rw [← h16]
  simp -implicitDefEqProofs [q_Ptable_Table_Put_11, e0, e6, ct, ch, hal, hai]
  rw [hE]
  have ef : (tS n).emp ((tS n).fn M at_) = decide (e.count = 0) := by rw [hfn, ← he]; rfl
  by_cases hc : 0 < e.count
  · have hemp : (tS n).emp ((tS n).fn M at_) = false := by rw [ef]; exact decide_eq_false (by omega)
    have hgap := car.gap cl ce hemp
    have hfar := car.far hemp
    have hNn : (tS n).n = n + 1 := rfl
    obtain ⟨d, hd⟩ : ∃ d, d = (tS n).far now at_ := ⟨_, rfl⟩
    have hfnx := TS.far_nxt (S := tS n) (x := now) (p := at_) hlt hfar
    rw [← hd] at e7 hfar hfnx
    have hy := w_table_yields (L := M) (k := (r.length : Int)) hM hn (a := at_) (d := d) hlt (by omega) now.h32
    have hff := w_table_far (L := M) (k := (r.length : Int)) hM hn hlt
    rw [hfn, ← he] at hy hff
    have n32 := now.h32
    have hw1 : IntKind.i64.wrap ((at_ : Int) + 1) = (at_ : Int) + 1 := wrap_i64 (by omega)
    have hw2 : IntKind.i64.wrap ((d : Int) + 1) = (d : Int) + 1 := wrap_i64 (by omega)
    have e2 := nxt_eq hlt
    rw [← hM] at e2
    obtain ⟨p1, hp1⟩ : ∃ p1, p1 = (tS n).nxt at_ := ⟨_, rfl⟩
    have hp1l : p1 < n + 1 := by rw [hp1]; exact TS.nxt_lt hlt
    rw [← hp1] at e2 hgap hfnx
    have hw3 : IntKind.i64.wrap (p1 : Int) = (p1 : Int) := wrap_i64 (by omega)
    have hne0 : ¬ M = [] := fun e => by rw [e] at hM; simp at hM
    have hne1 : ¬ (M.length : Int) = 0 := by omega
    obtain ⟨r13, h13⟩ : ∃ r, r = q_Ptable_Table_Put_13 := ⟨_, rfl⟩; rw [← h13]
    obtain ⟨r15, h15⟩ : ∃ r, r = q_Ptable_Table_Put_15 := ⟨_, rfl⟩; rw [← h15]
    simp -implicitDefEqProofs [hc]
    simp -implicitDefEqProofs [h12, q_Ptable_Table_Put_12, e0, e3, e6, e7, f3, n32]
    refine hy.call (.cons hi.vw rfl (.cons (.refl _) rfl (.cons (.refl _) rfl (.cons (.refl _) rfl .nil)))) rfl ?_
    by_cases hP : (tS n).far e at_ < d ∨ ((tS n).far e at_ = d ∧ lessL now.addr e.addr = true)
    · rw [decide_eq_true hP]
      have hb : (tS n).beats now ((tS n).fn M at_) at_ := by unfold TS.beats; rw [hfn, ← he, ← hd]; exact hP
      have car' := car.swap hemp hb
      rw [hfn, ← he, ← hp1] at car'
      simp -implicitDefEqProofs [h13, q_Ptable_Table_Put_13, e0, e6]
      refine hff.call (.cons hi.vw rfl (.cons (.refl _) rfl .nil)) rfl ?_
      obtain ⟨f, hf⟩ : ∃ f, f = (tS n).far e at_ := ⟨_, rfl⟩
      have hfd : f ≤ d := by rw [hf]; omega
      have hfnx2 := TS.far_nxt (S := tS n) (x := e) (p := at_) hlt (by rw [← hf]; omega)
      rw [← hf, ← hp1] at hfnx2
      rw [← hf]
      have hw4 : IntKind.i64.wrap ((f : Int) + 1) = (f : Int) + 1 := wrap_i64 (by omega)
      have n3t : ¬ g3 = t := fun e => ht3 e.symm
      have n3h : ¬ g3 = h := fun e => hh3 e.symm
      have nth : ¬ t = h := hi.ne
      have hset : (List.map enA M).set at_ (.agg [.iarr .u8 32 (ints now.addr), .int .i64 now.slot, .int .i64 now.count]) = (M.set at_ now).map enA := by rw [List.map_set]; rfl
      have e32 := e.h32
      simp -implicitDefEqProofs [q_Ptable_Table_Put_14, e0, e3, e6, f3, ct, ch, hal, hai, n32, hE, e32, hset, nth, n3t, n3h, ht3, hh3, Ne.symm nth]
      rw [setEl_en]
      simp -implicitDefEqProofs [hset, f3, n3h]
      have hit : TbI t h (M.set at_ now) r.length ((B.set h (.row T_api_Entry 34 ((List.map enA M).set at_ (enA now)))).set g3 (.var T_api_Entry [.iarr .u8 32 (ints e.addr), .int .i64 e.slot, .int .i64 e.count])) := by
        refine ⟨?_, ?_⟩
        · rw [set_ne' ht3, set_ne' nth, List.length_set]; exact ct
        · rw [set_ne' hh3, set_eq', List.map_set]
      have hkp : Keep t h A ((B.set h (.row T_api_Entry 34 ((List.map enA M).set at_ (enA now)))).set g3 (.var T_api_Entry [.iarr .u8 32 (ints e.addr), .int .i64 e.slot, .int .i64 e.count])) := fun x cx h1 h2 hx => by
        rw [set_ne' (fun e => by subst e; rw [hg3] at hx; cases hx), set_ne' h2]
        exact kp x cx h1 h2 hx
      obtain ⟨Y, hY⟩ : ∃ Y, Y = (B.set h (.row T_api_Entry 34 ((List.map enA M).set at_ (enA now)))).set g3 (.var T_api_Entry [.iarr .u8 32 (ints e.addr), .int .i64 e.slot, .int .i64 e.count]) := ⟨_, rfl⟩
      have y3 : Y g3 = some (.var T_api_Entry [.iarr .u8 32 (ints e.addr), .int .i64 e.slot, .int .i64 e.count]) := by rw [hY, set_eq']
      rw [← hY] at hit hkp
      rw [← hY]
      have yt := hit.ct
      rw [List.length_set] at yt
      clear hY
      simp -implicitDefEqProofs [h15, q_Ptable_Table_Put_15, e0, e6, yt, hw1, hw4, e2, hw3, hne0, hne1]
      exact lp_next (M.set at_ now, e, p1) ⟨car', cl, hgap.2, by simp [e0], by simp [e3], by simp, by simp [hfnx2], hit, y3, hkp⟩ (by simp only; omega)
    · rw [decide_eq_false hP]
      have hb : ¬ (tS n).beats now ((tS n).fn M at_) at_ := by unfold TS.beats; rw [hfn, ← he, ← hd]; exact hP
      have car' := car.pass hemp hb
      rw [← hp1] at car'
      simp -implicitDefEqProofs [h15, q_Ptable_Table_Put_15, e0, e6, e7, ct, hw1, hw2, e2, hw3, hne0, hne1]
      exact lp_next (M, now, p1) ⟨car', cl, ce, by simp [e0], by simp [e3], by simp, by simp [hfnx], hi, f3, kp⟩ (by simp only; omega)
  · have hc0 : e.count = 0 := by omega
    have hemp : (tS n).emp ((tS n).fn M at_) = true := by rw [ef]; exact decide_eq_true hc0
    have hfin := car.fin hemp
    have n32 := now.h32
    simp -implicitDefEqProofs [hc0]
    simp -implicitDefEqProofs [h16, q_Ptable_Table_Put_16, e0, e3, e6, f3, ct, ch, hal, hai, n32]
    rw [hE]
    have e32 := e.h32
    rw [setEl_en]
    have hset : (List.map enA M).set at_ (.agg [.iarr .u8 32 (ints now.addr), .int .i64 now.slot, .int .i64 now.count]) = (M.set at_ now).map enA := by rw [List.map_set]; rfl
    simp -implicitDefEqProofs [hset]
    refine hk _ _ _ hfin ⟨?_, by rw [set_eq', List.map_set]⟩ fun x cx h1 h2 hx => ?_
    · rw [set_ne' hi.ne, List.length_set]; exact ct
    · rw [set_ne' h2]; exact kp x cx h1 h2 hx
end
end Go.Proofs.Ytilgdnbijkcboaa

/- Put, whole. -/
namespace Go.Proofs.Ytilgdnbijkcboaa
open Go AVL
set_option linter.unusedVariables false
set_option linter.unusedSimpArgs false
set_option maxRecDepth 8000

section
variable {A : Heap} {K Kp : AV → Heap → Prop} {n t h : Nat} {L r : List En}
theorem w_table_Put (hn : n < 2 ^ 40) (hT : (tS n).Tab L r) (hr : (tS n).Rise r) (hpos : ∀ x ∈ r, 0 < x.count) (hi : TbI t h L r.length A) (e : En)
    (hk : ∀ L' B', (tS n).Tab L' (putT n r e) → TbI t h L' (putT n r e).length B' → Keep t h A B' → K (.int .i64 (putC n r e)) B') : SimX Try.prog F_Ptable_Table_Put [.ptr t 0, enA e] A (outK K Kp) := by
  have hL : L.length = n + 1 := hT.len
  have e32 := e.h32
  have hE : enA e = .agg [.iarr .u8 32 (ints e.addr), .int .i64 e.slot, .int .i64 e.count] := rfl
  have key : ∀ x : En, (tS n).key x = x.addr := fun _ => rfl
  refine j_Ptable_Table_Put (by simp) ?_
  by_cases hri : rightE e
  · have hC0 : putC n r e = if ∃ x ∈ r, x.addr = e.addr then 0 else if n < r.length + 1 then 6 else 0 := by unfold putC; rw [if_neg (by simpa using hri)]
    obtain ⟨c1, c2, c3, c4⟩ := hri
    have hc1 : ¬ e.count < 1 := by omega
    have hc2 : ¬ 1099511627776 < e.count := by omega
    have hc3 : ¬ e.slot < 0 := by omega
    have hc4 : ¬ 200 ≤ e.slot := by omega
    rw [hE]
    unfold a_Ptable_Table_Put
    obtain ⟨r3, h3⟩ : ∃ r, r = q_Ptable_Table_Put_3 := ⟨_, rfl⟩; rw [← h3]
    simp -implicitDefEqProofs [q_Ptable_Table_Put_0, q_Ptable_Table_Put_1, e32, hc1, hc2, hc3, hc4]
    intro g3 hg3
    have ht3 : t ≠ g3 := fun e => by subst e; rw [hi.ct] at hg3; cases hg3
    have hh3 : h ≠ g3 := fun e => by subst e; rw [hi.ch] at hg3; cases hg3
    obtain ⟨Y, hY⟩ : ∃ Y, Y = A.set g3 (.var T_api_Entry [.iarr .u8 32 (ints e.addr), .int .i64 e.slot, .int .i64 e.count]) := ⟨_, rfl⟩
    rw [← hY]
    have hs : A.Sub Y := by rw [hY]; exact sub_none hg3
    have hy := hi.mono hs
    have y3 : Y g3 = some (.var T_api_Entry [.iarr .u8 32 (ints e.addr), .int .i64 e.slot, .int .i64 e.count]) := by rw [hY, set_eq']
    have ct := hy.ct
    have ch := hy.ch
    clear hY
    have nth : ¬ t = h := hy.ne
    simp -implicitDefEqProofs [h3, q_Ptable_Table_Put_3, y3, e32]
    by_cases hex : ∃ x ∈ r, x.addr = e.addr
    · rw [if_pos hex] at hC0
      have hTt : putT n r e = (tS n).putR e r := by unfold putT; rw [hC0]; rfl
      have hlen : ((tS n).putR e r).length = r.length := by rw [TS.len_putR hr]; exact if_pos hex
      rw [hC0, hTt, hlen] at hk
      obtain ⟨x, hx, hxa⟩ := hex
      obtain ⟨i, hin, hxi, hxe⟩ := (hT.has x).2 hx
      have hin : i < n + 1 := hin
      have hal : i < L.length := by omega
      have hai : (i : Int) < L.length := by omega
      have hi0 : (0 : Int) ≤ i := by omega
      have hemp : (tS n).emp ((tS n).fn L i) = false := by rw [hxi]; exact hxe
      have hov := hT.over (r' := (tS n).putR e r) (e := e) hin hemp (by rw [hxi]; exact hxa.symm) (decide_eq_false (by omega)) (fun y => TS.mem_putR hr) hlen
      obtain ⟨o, ho⟩ : ∃ o, o = L[i] := ⟨_, rfl⟩
      have hO : enA L[i] = .agg [.iarr .u8 32 (ints o.addr), .int .i64 o.slot, .int .i64 o.count] := by rw [ho]; rfl
      refine (w_table_find (k := (r.length : Int)) hT hn e (v := i) (.inl ⟨i, rfl, hin, by rw [hxi]; exact of_decide_eq_false hxe, by rw [hxi]; exact hxa⟩)).call (.cons hy.vw rfl (.cons (.refl _) rfl .nil)) rfl ?_
      obtain ⟨r5, h5⟩ : ∃ r, r = q_Ptable_Table_Put_5 := ⟨_, rfl⟩; rw [← h5]
      obtain ⟨r6, h6⟩ : ∃ r, r = q_Ptable_Table_Put_6 := ⟨_, rfl⟩; rw [← h6]
      simp -implicitDefEqProofs [q_Ptable_Table_Put_4, hi0]
      simp -implicitDefEqProofs [h5, q_Ptable_Table_Put_5, ct, ch, y3, hal, hai, e32]
      rw [hO, setEl_en]
      simp -implicitDefEqProofs [h6, q_Ptable_Table_Put_6, outOf]
      refine hk _ _ hov ⟨?_, ?_⟩ fun x cx h1 h2 hx => ?_
      · rw [set_ne' nth, List.length_set]; exact ct
      · rw [set_eq', List.map_set, hE]
      · rw [set_ne' h2]; exact hs _ _ hx
    · rw [if_neg hex] at hC0
      have habs : ∀ x ∈ r, x.addr ≠ e.addr := fun x hx hxa => hex ⟨x, hx, hxa⟩
      have habs2 := (hT.absent (x := e)).2 habs
      refine (w_table_find (k := (r.length : Int)) hT hn e (v := -1) (.inr ⟨rfl, fun i hi hc => habs2 i hi (decide_eq_false hc)⟩)).call (.cons hy.vw rfl (.cons (.refl _) rfl .nil)) rfl ?_
      have hroom : r.length < n + 1 := hT.room
      have hw1 : IntKind.i64.wrap ((r.length : Int) + 1) = (r.length : Int) + 1 := wrap_i64 (by omega)
      obtain ⟨r7, h7⟩ : ∃ r, r = q_Ptable_Table_Put_7 := ⟨_, rfl⟩; rw [← h7]
      simp -implicitDefEqProofs [q_Ptable_Table_Put_4]
      by_cases hfull : n < r.length + 1
      · rw [if_pos hfull] at hC0
        have hTt : putT n r e = r := by unfold putT; rw [hC0]; rfl
        rw [hC0, hTt] at hk
        have hge : (L.length : Int) ≤ (r.length : Int) + 1 := by omega
        simp -implicitDefEqProofs [h7, q_Ptable_Table_Put_7, q_Ptable_Table_Put_8, ct, hw1, hge, outOf]
        exact hk L _ hT hy (.of hs)
      · rw [if_neg hfull] at hC0
        have hTt : putT n r e = (tS n).putR e r := by unfold putT; rw [hC0]; rfl
        have hlen : ((tS n).putR e r).length = r.length + 1 := by rw [TS.len_putR hr]; exact if_neg hex
        rw [hC0, hTt] at hk
        have hge : ¬ (L.length : Int) ≤ (r.length : Int) + 1 := by omega
        obtain ⟨r9, h9⟩ : ∃ r, r = q_Ptable_Table_Put_9 := ⟨_, rfl⟩; rw [← h9]
        obtain ⟨r10, h10⟩ : ∃ r, r = q_Ptable_Table_Put_10 := ⟨_, rfl⟩; rw [← h10]
        simp -implicitDefEqProofs [h7, q_Ptable_Table_Put_7, ct, hw1, hge]
        simp -implicitDefEqProofs [h9, q_Ptable_Table_Put_9, ct, hw1]
        obtain ⟨Z, hZ⟩ : ∃ Z, Z = Y.set t (.var T_table_Table [.own h 0 L.length, .int .i64 ((r.length : Int) + 1)]) := ⟨_, rfl⟩
        rw [← hZ]
        have hiz : TbI t h L (((tS n).putR e r).length : Nat) Z := by
          rw [hlen]
          refine ⟨by rw [hZ, set_eq']; rfl, by rw [hZ, set_ne' (fun e => nth e.symm)]; exact ch⟩
        have z3 : Z g3 = some (.var T_api_Entry [.iarr .u8 32 (ints e.addr), .int .i64 e.slot, .int .i64 e.count]) := by rw [hZ, set_ne' (fun e => ht3 e.symm)]; exact y3
        have hkz : Keep t h A Z := fun x cx h1 h2 hx => by rw [hZ, set_ne' h1]; exact hs _ _ hx
        have zt := hiz.ct
        clear hZ
        have hcar := hT.car (r' := (tS n).putR e r) habs2 (decide_eq_false (by omega)) (fun x => by
          rw [TS.mem_putR hr]
          constructor
          · rintro (h | h)
            · exact .inl h
            · exact .inr h.1
          · rintro (h | h)
            · exact .inl h
            · exact .inr ⟨h, habs x h⟩) hlen (show r.length + 1 < n + 1 by omega)
        obtain ⟨c, hcl, hce⟩ := hcar.free
        have hpos' : ∀ x ∈ (tS n).putR e r, 0 < x.count := fun x hx => by
          rcases (TS.mem_putR hr).1 hx with rfl | h
          · omega
          · exact hpos x h.1
        obtain ⟨q, hq⟩ : ∃ q, q = hmN (n + 1) e.addr := ⟨_, rfl⟩
        have hm := homV_eq (n := n + 1) (by omega) e.addr
        have hd := w_digest_Home e.hb e.h32 (o := (L.length : Int)) (by omega) (by omega)
        rw [← hq, ← hL] at hm
        rw [hm] at hd
        have hcar' : TS.CarL (tS n) L e q ((tS n).putR e r) := by rw [hq]; exact hcar
        have hf0 : (tS n).far e q = 0 := (TS.far_zero (by rw [hq]; exact (tS n).hm_lt _)).2 hq
        obtain ⟨r16, h16⟩ : ∃ r, r = q_Ptable_Table_Put_16 := ⟨_, rfl⟩; rw [← h16]
        obtain ⟨r17, h17⟩ : ∃ r, r = q_Ptable_Table_Put_17 := ⟨_, rfl⟩; rw [← h17]
        simp -implicitDefEqProofs [h10, q_Ptable_Table_Put_10, zt, z3, e32]
        refine hd.call (.cons (.refl _) rfl (.cons (.refl _) rfl .nil)) rfl ?_
        simp -implicitDefEqProofs
        rw [h16, h17]
        refine put_loop hn (s := (L, e, q)) hpos' hg3 ht3 hh3 ⟨hcar', hcl, hce, by simp, by simp, by simp, by simp [hf0], hiz, z3, hkz⟩ fun env' B' L' hT' hi' hk' => ?_
        simp -implicitDefEqProofs [q_Ptable_Table_Put_17, outOf]
        exact hk L' B' hT' hi' hk'
  · have hC : putC n r e = 2 := by unfold putC; rw [if_pos hri]
    have hTt : putT n r e = r := by unfold putT; rw [hC]; rfl
    rw [hC, hTt] at hk
    have hfin : ∀ B', A.Sub B' → K (.int .i64 2) B' := fun B' hs => hk L B' hT (hi.mono hs) (.of hs)
    rw [hE]
    unfold rightE at hri
    by_cases h1 : e.count < 1
    · simp -implicitDefEqProofs [a_Ptable_Table_Put, q_Ptable_Table_Put_0, q_Ptable_Table_Put_1, q_Ptable_Table_Put_2, e32, h1, outOf]
      exact fun g hg => hfin _ (sub_none hg)
    · by_cases h2 : 1099511627776 < e.count
      · simp -implicitDefEqProofs [a_Ptable_Table_Put, q_Ptable_Table_Put_0, q_Ptable_Table_Put_1, q_Ptable_Table_Put_2, e32, h1, h2, outOf]
        exact fun g hg => hfin _ (sub_none hg)
      · by_cases h3 : e.slot < 0
        · simp -implicitDefEqProofs [a_Ptable_Table_Put, q_Ptable_Table_Put_0, q_Ptable_Table_Put_1, q_Ptable_Table_Put_2, e32, h1, h2, h3, outOf]
          exact fun g hg => hfin _ (sub_none hg)
        · have h4 : 200 ≤ e.slot := by omega
          simp -implicitDefEqProofs [a_Ptable_Table_Put, q_Ptable_Table_Put_0, q_Ptable_Table_Put_1, q_Ptable_Table_Put_2, e32, h1, h2, h3, h4, outOf]
          exact fun g hg => hfin _ (sub_none hg)
end
end Go.Proofs.Ytilgdnbijkcboaa

/- Drop. -/
namespace Go.Proofs.Ytilgdnbijkcboaa
open Go AVL
set_option linter.unusedVariables false
set_option linter.unusedSimpArgs false
set_option maxRecDepth 8000

structure DropI (n t h c : Nat) (r : List En) (A : Heap) (s : List En × Nat) (env : AEnv) (B : Heap) : Prop where
  hole : TS.HoleL (tS n) s.1 s.2 r
  cl : c < n + 1
  cn : c ≠ s.2
  ce : (tS n).emp ((tS n).fn s.1 c) = true
  e0 : env 0 = .ptr t 0
  e5 : env 5 = .int .i64 s.2
  hi : TbI t h s.1 ((r.length : Int) + 1) B
  kp : Keep t h A B
section
variable {A : Heap} {K Kp : AV → Heap → Prop} {n t h : Nat} {L r : List En}
theorem drop_loop (hn : n < 2 ^ 40) {c : Nat} {s : List En × Nat} {env : AEnv} {B : Heap} (h0 : DropI n t h c r A s env B) {R : APost}
    (hk : ∀ env' B' L', TS.Tab (tS n) L' r → TbI t h L' r.length B' → Keep t h A B' → X Try.prog R (.seq (.region q_Ptable_Table_Drop_10) .ret) .done env' B') :
    X Try.prog R (.seq (.block 0 (.loop q_Ptable_Table_Drop_L8)) (.seq (.region q_Ptable_Table_Drop_8) (.seq (.region q_Ptable_Table_Drop_9) (.seq (.region q_Ptable_Table_Drop_10) .ret)))) .done env B := by
  simp -implicitDefEqProofs
  refine X_lp (DropI n t h c r A) (fun s => (tS n).gap c s.2) s h0 ?_
  rintro ⟨M, at_⟩ env B ⟨ho, cl, cn, ce, e0, e5, hi, kp⟩
  simp only at ho cn ce e5 hi
  have hlt : at_ < n + 1 := ho.hole.lt
  have hM : M.length = n + 1 := ho.len
  have hal : at_ < M.length := by omega
  have ct := hi.ct
  have ch := hi.ch
  have nth : ¬ t = h := hi.ne
  have hgap := ho.gap cl cn ce
  have e2 := nxt_eq hlt
  rw [← hM] at e2
  obtain ⟨p, hp⟩ : ∃ p, p = (tS n).nxt at_ := ⟨_, rfl⟩
  have hpl : p < n + 1 := by rw [hp]; exact TS.nxt_lt hlt
  rw [← hp] at e2 hgap
  have hne : p ≠ at_ := fun e => by
    rw [hp] at e
    have : n = 0 := by
      have h1 : (tS n).nxt at_ = if at_ + 1 < n + 1 then at_ + 1 else 0 := rfl
      rw [h1] at e
      split at e <;> omega
    omega
  have hpM : p < M.length := by omega
  have hpi : (p : Int) < M.length := by omega
  have hai : (at_ : Int) < M.length := by omega
  have hw1 : IntKind.i64.wrap ((at_ : Int) + 1) = (at_ : Int) + 1 := wrap_i64 (by omega)
  have hw3 : IntKind.i64.wrap (p : Int) = (p : Int) := wrap_i64 (by omega)
  have hne0 : ¬ M = [] := fun e => by rw [e] at hM; simp at hM
  have hne1 : ¬ (M.length : Int) = 0 := by omega
  have hfn : (tS n).fn M p = M[p] := tS_fn hpM
  obtain ⟨e, he⟩ : ∃ e, e = M[p] := ⟨_, rfl⟩
  have hE : enA M[p] = .agg [.iarr .u8 32 (ints e.addr), .int .i64 e.slot, .int .i64 e.count] := by rw [he]; rfl
  have e32 := e.h32
  have ef : (tS n).emp ((tS n).fn M p) = decide (e.count = 0) := by rw [hfn, ← he]; rfl
  have hff := w_table_far (L := M) (k := (r.length : Int) + 1) hM hn hpl
  rw [hfn, ← he] at hff
  obtain ⟨f, hf⟩ : ∃ f, f = (tS n).far e p := ⟨_, rfl⟩
  rw [← hf] at hff
  -- the end
  have fin : ((tS n).emp ((tS n).fn M p) = true ∨ (tS n).far ((tS n).fn M p) p = 0) → ∀ env', env' 0 = .ptr t 0 → env' 5 = .int .i64 at_ →
      XO Try.prog R q_Ptable_Table_Drop_8 (.thn (.seq (.region q_Ptable_Table_Drop_9) (.seq (.region q_Ptable_Table_Drop_10) .ret)) .done) env' B := by
    intro hend env' f0 f5
    have hT := ho.fin (by rw [← hp]; exact hend)
    have hle : (at_ : Int) + 1 ≤ M.length := by omega
    obtain ⟨r9, h9⟩ : ∃ r, r = q_Ptable_Table_Drop_9 := ⟨_, rfl⟩; rw [← h9]
    simp -implicitDefEqProofs [-List.reduceReplicate, q_Ptable_Table_Drop_8, f0, f5, ct, ch, hw1, hle]
    refine ⟨by omega, by omega, ?_⟩
    have hrow : List.take at_ (List.map enA M) ++ (.agg [.iarr .u8 32 (List.replicate 32 0), .int .i64 0, .int .i64 0] : AV) :: List.drop (at_ + 1) (List.map enA M) = (M.set at_ enZ).map enA := by
      rw [enA_Z, List.map_set, List.set_eq_take_append_cons_drop, if_pos (by simpa using hal)]
    rw [hrow]
    have hT' : (tS n).Tab (M.set at_ enZ) r := hT
    obtain ⟨Y, hY⟩ : ∃ Y, Y = B.set h (.row T_api_Entry 34 ((M.set at_ enZ).map enA)) := ⟨_, rfl⟩
    rw [← hY]
    have yt : Y t = some (.var T_table_Table [.own h 0 M.length, .int .i64 ((r.length : Int) + 1)]) := by rw [hY, set_ne' nth]; exact ct
    have yh : Y h = some (.row T_api_Entry 34 ((M.set at_ enZ).map enA)) := by rw [hY, set_eq']
    have hky : Keep t h A Y := fun x cx h1 h2 hx => by rw [hY, set_ne' h2]; exact kp x cx h1 h2 hx
    clear hY hrow
    have hroom : r.length < n + 1 := hT.room
    have hw5 : IntKind.i64.wrap ((r.length : Int) + 1 - 1) = (r.length : Int) := by rw [wrap_i64 (by omega)]; omega
    have hw6 : (r.length : Int) + 1 - 1 = (r.length : Int) := by omega
    have hw7 : IntKind.i64.wrap (r.length : Int) = (r.length : Int) := wrap_i64 (by omega)
    obtain ⟨r10, h10⟩ : ∃ r, r = q_Ptable_Table_Drop_10 := ⟨_, rfl⟩; rw [← h10]
    simp -implicitDefEqProofs [h9, q_Ptable_Table_Drop_9, f0, yt, hw5, hw6, hw7]
    rw [h10]
    refine hk _ _ (M.set at_ enZ) hT' ⟨?_, ?_⟩ fun x cx h1 h2 hx => ?_
    · rw [set_eq', List.length_set]
    · rw [set_ne' (fun e => nth e.symm)]; exact yh
    · rw [set_ne' h1]; exact hky x cx h1 h2 hx
  rw [q_Ptable_Table_Drop_L8]
  obtain ⟨r5, h5⟩ : ∃ r, r = q_Ptable_Table_Drop_5 := ⟨_, rfl⟩; rw [← h5]
  obtain ⟨r8, h8⟩ : ∃ r, r = q_Ptable_Table_Drop_8 := ⟨_, rfl⟩; rw [← h8]
  simp -implicitDefEqProofs [q_Ptable_Table_Drop_4, e0, e5, ct, hw1, e2, hw3, hne0, hne1]
  simp -implicitDefEqProofs [h5, q_Ptable_Table_Drop_5, e0, ct, ch, hpM, hpi]
  rw [hE]
  by_cases hc : e.count = 0
  · have hemp : (tS n).emp ((tS n).fn M p) = true := by rw [ef]; exact decide_eq_true hc
    simp -implicitDefEqProofs [hc]
    rw [h8]
    exact fin (.inl hemp) _ (by simp [e0]) (by simp [e5])
  · have hemp : (tS n).emp ((tS n).fn M p) = false := by rw [ef]; exact decide_eq_false hc
    obtain ⟨r6, h6⟩ : ∃ r, r = q_Ptable_Table_Drop_6 := ⟨_, rfl⟩; rw [← h6]
    obtain ⟨r7, h7⟩ : ∃ r, r = q_Ptable_Table_Drop_7 := ⟨_, rfl⟩; rw [← h7]
    simp -implicitDefEqProofs [hc, e0]
    refine hff.call (.cons hi.vw rfl (.cons (.refl _) rfl .nil)) rfl ?_
    by_cases hf0 : f = 0
    · simp -implicitDefEqProofs [hf0]
      rw [h8]
      exact fin (.inr (by rw [hfn, ← he, ← hf]; exact hf0)) _ (by simp [e0]) (by simp [e5])
    · have hf0' : ¬ (f : Int) = 0 := by omega
      have hst := ho.step (by rw [← hp]; exact hne) (by rw [← hp]; exact hemp) (by rw [← hp, hfn, ← he, ← hf]; exact hf0)
      rw [← hp, hfn, ← he] at hst
      rw [hfn, ← he] at hgap
      simp -implicitDefEqProofs [hf0', hf0]
      obtain ⟨o, hoo⟩ : ∃ o, o = M[at_] := ⟨_, rfl⟩
      have hO : enA M[at_] = .agg [.iarr .u8 32 (ints o.addr), .int .i64 o.slot, .int .i64 o.count] := by rw [hoo]; rfl
      simp -implicitDefEqProofs [h6, q_Ptable_Table_Drop_6, e0, e5, ct, ch, hal, hai, hpM, hpi, hE, e32]
      rw [hO, setEl_en]
      simp -implicitDefEqProofs [h7, q_Ptable_Table_Drop_7]
      have hcp : c ≠ p := fun e => by
        rw [e, hemp] at ce; cases ce
      refine lp_next (M.set at_ e, p) ⟨hst, cl, hcp, hgap.2, by simp [e0], by simp, ⟨?_, ?_⟩, fun x cx h1 h2 hx => ?_⟩ (by simp only; omega)
      · rw [set_ne' nth, List.length_set]; exact ct
      · rw [set_eq', List.map_set, ← hE, he]
      · rw [set_ne' h2]; exact kp x cx h1 h2 hx
end
def dropC (r : List En) (a : List Nat) : Int := if ∃ x ∈ r, x.addr = a then 0 else 8
def dropT (n : Nat) (r : List En) (a : List Nat) : List En := if ∃ x ∈ r, x.addr = a then (tS n).dropR r a else r
section
variable {A : Heap} {K Kp : AV → Heap → Prop} {n t h : Nat} {L r : List En}
theorem w_table_Drop (hn : n < 2 ^ 40) (hT : (tS n).Tab L r) (hr : (tS n).Rise r) (hi : TbI t h L r.length A) (x : En)
    (hk : ∀ L' B', (tS n).Tab L' (dropT n r x.addr) → TbI t h L' (dropT n r x.addr).length B' → Keep t h A B' → K (.int .i64 (dropC r x.addr)) B') : SimX Try.prog F_Ptable_Table_Drop [.ptr t 0, .iarr .u8 32 (ints x.addr)] A (outK K Kp) := by
  have hL : L.length = n + 1 := hT.len
  have x32 := x.h32
  refine j_Ptable_Table_Drop (by simp) ?_
  unfold a_Ptable_Table_Drop
  simp -implicitDefEqProofs [q_Ptable_Table_Drop_0, q_Ptable_Table_Drop_1, x32]
  intro g3 hg3
  obtain ⟨Y, hY⟩ : ∃ Y, Y = A.set g3 (.var T_32_uint8 [.iarr .u8 32 (ints x.addr)]) := ⟨_, rfl⟩
  rw [← hY]
  have hs : A.Sub Y := by rw [hY]; exact sub_none hg3
  have hy := hi.mono hs
  clear hY
  by_cases hex : ∃ y ∈ r, y.addr = x.addr
  · have hT0 : dropT n r x.addr = (tS n).dropR r x.addr := if_pos hex
    have hC0 : dropC r x.addr = 0 := if_pos hex
    rw [hT0, hC0] at hk
    have hix : (tS n).ixR r x.addr < r.length := TS.ixR_lt.2 hex
    have hlen := TS.len_dropR hix
    obtain ⟨y, hyr, hya⟩ := hex
    obtain ⟨i, hin, hyi, hye⟩ := (hT.has y).2 hyr
    have hin : i < n + 1 := hin
    have hemp : (tS n).emp ((tS n).fn L i) = false := by rw [hyi]; exact hye
    refine (w_table_find (k := (r.length : Int)) hT hn x (v := i) (.inl ⟨i, rfl, hin, by rw [hyi]; exact of_decide_eq_false hye, by rw [hyi]; exact hya⟩)).call (.cons hy.vw rfl (.cons (.refl _) rfl .nil)) rfl ?_
    have hi0 : ¬ (i : Int) < 0 := by omega
    have hho := hT.hole (r' := (tS n).dropR r x.addr) hin hemp (fun z => by rw [TS.mem_dropR hr hix, hyi]; exact Iff.intro (fun ⟨h1, h2⟩ => ⟨h1, fun e => h2 (e.trans hya)⟩) (fun ⟨h1, h2⟩ => ⟨h1, fun e => h2 (e.trans hya.symm)⟩)) hlen
    obtain ⟨c, hcl, hcn, hce⟩ := hho.free (show ((tS n).dropR r x.addr).length + 1 < n + 1 by have h1 : r.length < n + 1 := hT.room; omega)
    have hyk : TbI t h L (((tS n).dropR r x.addr).length + 1 : Int) Y := by
      have h1 := hy
      have h2 : (r.length : Int) = (((tS n).dropR r x.addr).length + 1 : Int) := by omega
      rw [h2] at h1; exact h1
    obtain ⟨r8, h8⟩ : ∃ r, r = q_Ptable_Table_Drop_8 := ⟨_, rfl⟩; rw [← h8]
    obtain ⟨r9, h9⟩ : ∃ r, r = q_Ptable_Table_Drop_9 := ⟨_, rfl⟩; rw [← h9]
    obtain ⟨r10, h10⟩ : ∃ r, r = q_Ptable_Table_Drop_10 := ⟨_, rfl⟩; rw [← h10]
    simp -implicitDefEqProofs [q_Ptable_Table_Drop_2, hi0]
    rw [h8, h9, h10]
    refine drop_loop hn (s := (L, i)) ⟨hho, hcl, hcn, hce, by simp, by simp, hyk, .of hs⟩ fun env' B' L' hT' hi' hk' => ?_
    simp -implicitDefEqProofs [q_Ptable_Table_Drop_10, outOf]
    exact hk L' B' hT' hi' hk'
  · have hT0 : dropT n r x.addr = r := if_neg hex
    have hC0 : dropC r x.addr = 8 := if_neg hex
    rw [hT0, hC0] at hk
    have habs2 := (hT.absent (x := x)).2 fun y hy hya => hex ⟨y, hy, hya⟩
    refine (w_table_find (k := (r.length : Int)) hT hn x (v := -1) (.inr ⟨rfl, fun i hi hc => habs2 i hi (decide_eq_false hc)⟩)).call (.cons hy.vw rfl (.cons (.refl _) rfl .nil)) rfl ?_
    simp -implicitDefEqProofs [q_Ptable_Table_Drop_2, q_Ptable_Table_Drop_3, outOf]
    exact hk L Y hT hy (.of hs)
end
end Go.Proofs.Ytilgdnbijkcboaa

/- The chapter's small functions. -/
namespace Go.Proofs.Ytilgdnbijkcboaa
open Go AVL
set_option linter.unusedVariables false
set_option linter.unusedSimpArgs false
set_option maxRecDepth 8000

theorem w_ref11_less {a b : List Nat} (ha : a.length = 32) (hb : b.length = 32) : Gives Try.prog F_ref11_less [.iarr .u8 32 (ints a), .iarr .u8 32 (ints b)] (.bool (lessL a b)) := by
  refine v_ref11_less (by simp) ?_
  simp -implicitDefEqProofs [a_ref11_less, q_ref11_less_0, q_ref11_less_1, ha, hb]
  intro g2 g3 n1 n2
  refine X_lp (fun (i : Nat) env B => i ≤ 32 ∧ env 2 = .ptr g2 0 ∧ env 3 = .ptr g3 0 ∧ env 5 = .int .i64 i ∧ lessL a b = lessL (a.drop i) (b.drop i) ∧ B g2 = some (.var T_32_uint8 [.iarr .u8 32 (ints a)]) ∧ B g3 = some (.var T_32_uint8 [.iarr .u8 32 (ints b)])) (fun i => 32 - i) 0
    ⟨by omega, by simp, by simp, by simp, rfl, by simp [n1, n2], by simp⟩ ?_
  rintro i env B ⟨hi, e2, e3, e6, hl, f2, f3⟩
  by_cases hi32 : i < 32
  · have c32 : (i : Int) < 32 := by omega
    have wi : IntKind.i64.wrap ((i : Int) + 1) = (i : Int) + 1 := wrap_i64 (by omega)
    have hia : i < a.length := by omega
    have hib : i < b.length := by omega
    rw [lessL_drop hia hib] at hl
    obtain ⟨x, hx⟩ : ∃ x, a[i] = x := ⟨_, rfl⟩
    obtain ⟨y, hy⟩ : ∃ x, b[i] = x := ⟨_, rfl⟩
    have hxd : a[i]?.getD 0 = x := by rw [List.getElem?_eq_getElem hia, ← hx]; rfl
    have hyd : b[i]?.getD 0 = y := by rw [List.getElem?_eq_getElem hib, ← hy]; rfl
    rw [hx, hy] at hl
    by_cases hxy : x = y
    · rw [if_pos hxy] at hl
      simp -implicitDefEqProofs [q_ref11_less_L6, q_ref11_less_2, q_ref11_less_3, q_ref11_less_5, e2, e3, e6, f2, f3, c32, ha, hb, hxd, hyd, hxy, wi]
      exact lp_next (i + 1) ⟨by omega, by simp [e2], by simp [e3], by simp, hl, by simp [f2], by simp [f3]⟩ (by omega)
    · rw [if_neg hxy] at hl
      have hxy' : ¬ (x : Int) = y := by omega
      simp -implicitDefEqProofs [q_ref11_less_L6, q_ref11_less_2, q_ref11_less_3, q_ref11_less_4, e2, e3, e6, f2, f3, c32, ha, hb, hxd, hyd, hxy, hxy', a_ref11_less, outOf, hl]
  · have hie : i = 32 := by omega
    subst hie
    rw [List.drop_of_length_le (by omega), List.drop_of_length_le (by omega)] at hl
    simp -implicitDefEqProofs [q_ref11_less_L6, q_ref11_less_2, q_ref11_less_6, e6, a_ref11_less, outOf, hl, lessL]
theorem w_ref11_far {n : Nat} (hn : n < 2 ^ 40) (x : En) {p : Nat} (hp : p < n + 1) : Gives Try.prog F_ref11_far [.iarr .u8 32 (ints x.addr), .int .i64 p, .int .i64 ((n + 1 : Nat) : Int)] (.int .i64 ((tS n).far x p : Nat)) := by
  refine v_ref11_far (by simp) ?_
  have x32 := x.h32
  have hd := w_ref03_Home x.hb x.h32 (o := ((n + 1 : Nat) : Int)) (by omega) (by omega)
  rw [homV_eq (by omega)] at hd
  have hf : (tS n).far x p = if hmN (n + 1) x.addr ≤ p then p - hmN (n + 1) x.addr else p + (n + 1) - hmN (n + 1) x.addr := rfl
  have hh : hmN (n + 1) x.addr < n + 1 := Nat.mod_lt _ (by omega)
  obtain ⟨q, hq⟩ : ∃ q, q = hmN (n + 1) x.addr := ⟨_, rfl⟩
  rw [← hq] at hd hf hh
  obtain ⟨N, hN⟩ : ∃ N : Nat, N = n + 1 := ⟨_, rfl⟩
  rw [← hN] at hd hf hh hp ⊢
  simp -implicitDefEqProofs [a_ref11_far, q_ref11_far_0, q_ref11_far_1, x32]
  intro g
  refine hd.call (.cons (.refl _) rfl (.cons (.refl _) rfl .nil)) rfl ?_
  by_cases hqp : q ≤ p
  · have hqp' : (q : Int) ≤ p := by omega
    have hw : IntKind.i64.wrap ((p : Int) - q) = ((p - q : Nat) : Int) := by rw [wrap_i64 (by omega)]; omega
    rw [if_pos hqp] at hf
    simp -implicitDefEqProofs [q_ref11_far_2, q_ref11_far_3, hqp, hqp', hw, outOf, hf]
  · have hqp' : ¬ (q : Int) ≤ p := by omega
    have hw1 : IntKind.i64.wrap ((p : Int) + N) = (p : Int) + N := wrap_i64 (by omega)
    have hw2 : IntKind.i64.wrap ((p : Int) + N - q) = ((p + N - q : Nat) : Int) := by rw [wrap_i64 (by omega)]; omega
    rw [if_neg hqp] at hf
    simp -implicitDefEqProofs [q_ref11_far_2, q_ref11_far_4, hqp, hqp', hw1, hw2, outOf, hf]
theorem w_ref11_goes {n : Nat} (hn : n < 2 ^ 40) (x y : En) {p : Nat} (hp : p < n + 1) : Gives Try.prog F_ref11_goes [.iarr .u8 32 (ints x.addr), .iarr .u8 32 (ints y.addr), .int .i64 p, .int .i64 ((n + 1 : Nat) : Int)]
    (.bool (decide ((tS n).far y p < (tS n).far x p ∨ ((tS n).far y p = (tS n).far x p ∧ lessL x.addr y.addr = true)))) := by
  refine v_ref11_goes (by simp) ?_
  have x32 := x.h32
  have y32 := y.h32
  have h1 := w_ref11_far hn x hp
  have h2 := w_ref11_far hn y hp
  obtain ⟨f, hf⟩ : ∃ f, f = (tS n).far x p := ⟨_, rfl⟩
  obtain ⟨g, hg⟩ : ∃ g, g = (tS n).far y p := ⟨_, rfl⟩
  rw [← hf] at h1 ⊢
  rw [← hg] at h2 ⊢
  have hl := w_ref11_less x32 y32
  obtain ⟨s, hs⟩ : ∃ s, s = lessL x.addr y.addr := ⟨_, rfl⟩
  rw [← hs] at hl ⊢
  obtain ⟨N, hN⟩ : ∃ N : Nat, N = n + 1 := ⟨_, rfl⟩
  rw [← hN] at h1 h2 hp ⊢
  clear hf hg hs
  unfold a_ref11_goes
  obtain ⟨r2, hr2⟩ : ∃ r, r = q_ref11_goes_2 := ⟨_, rfl⟩; rw [← hr2]
  obtain ⟨r3, hr3⟩ : ∃ r, r = q_ref11_goes_3 := ⟨_, rfl⟩; rw [← hr3]
  simp -implicitDefEqProofs [q_ref11_goes_0, q_ref11_goes_1, x32, y32]
  intro g4 g5 n1 n2
  simp -implicitDefEqProofs [n1, n2, x32, y32]
  refine h1.call (.cons (.refl _) rfl (.cons (.refl _) rfl (.cons (.refl _) rfl .nil))) rfl ?_
  simp -implicitDefEqProofs [hr2, q_ref11_goes_2, n1, n2, x32, y32]
  refine h2.call (.cons (.refl _) rfl (.cons (.refl _) rfl (.cons (.refl _) rfl .nil))) rfl ?_
  by_cases h1 : g < f
  · have h1' : (g : Int) < f := by omega
    simp -implicitDefEqProofs [hr3, q_ref11_goes_3, h1, h1', outOf]
  · have h1' : ¬ (g : Int) < f := by omega
    by_cases h2 : g = f
    · have h2' : (f : Int) = g := by omega
      subst h2
      simp -implicitDefEqProofs [hr3, q_ref11_goes_3, n1, n2, x32, y32]
      refine hl.call (.cons (.refl _) rfl (.cons (.refl _) rfl .nil)) rfl ?_
      simp -implicitDefEqProofs [outOf]
    · have h2' : ¬ (f : Int) = g := by omega
      simp -implicitDefEqProofs [hr3, q_ref11_goes_3, h1, h1', h2, h2', outOf]
theorem w_ref11_right (e : En) : Gives Try.prog F_ref11_right [enA e] (.bool (decide (rightE e))) := by
  refine v_ref11_right (by simp) ?_
  have e32 := e.h32
  have hE : enA e = .agg [.iarr .u8 32 (ints e.addr), .int .i64 e.slot, .int .i64 e.count] := rfl
  rw [hE]
  have hr : decide (rightE e) = decide (1 ≤ e.count ∧ e.count ≤ 1099511627776 ∧ 0 ≤ e.slot ∧ e.slot < 200) := rfl
  rw [hr]
  by_cases h1 : 1 ≤ e.count
  · by_cases h2 : e.count ≤ 1099511627776
    · by_cases h3 : 0 ≤ e.slot
      · simp -implicitDefEqProofs [a_ref11_right, q_ref11_right_0, q_ref11_right_1, e32, h1, h2, h3, outOf]
      · simp -implicitDefEqProofs [a_ref11_right, q_ref11_right_0, q_ref11_right_1, e32, h1, h2, h3, outOf]
    · simp -implicitDefEqProofs [a_ref11_right, q_ref11_right_0, q_ref11_right_1, e32, h1, h2, outOf]
  · simp -implicitDefEqProofs [a_ref11_right, q_ref11_right_0, q_ref11_right_1, e32, h1, outOf]
end Go.Proofs.Ytilgdnbijkcboaa

/- Find, Same. -/
namespace Go.Proofs.Ytilgdnbijkcboaa
open Go AVL
set_option linter.unusedVariables false
set_option linter.unusedSimpArgs false
set_option maxRecDepth 8000

/-- Where an address stands among entries, or -1. -/
def fiV (r : List En) (a : List Nat) : Int := if (tS 0).ixR r a < r.length then ((tS 0).ixR r a : Nat) else -1
theorem ixR_any (n : Nat) (r : List En) (a : List Nat) : (tS n).ixR r a = (tS 0).ixR r a := rfl
structure FinI (r : List En) (a : List Nat) (g3 : Nat) (i : Nat) (env : AEnv) (B : Heap) : Prop where
  le : i ≤ r.length
  no : ∀ j, (h : j < i) → (r[j]'(by omega)).addr ≠ a
  e0 : env 0 = .dsl 34 (r.map enA)
  e3 : env 3 = .ptr g3 0
  e5 : env 5 = .int .i64 i
  f3 : B g3 = some (.var T_32_uint8 [.iarr .u8 32 (ints a)])
theorem w_ref11_Find (r : List En) {a : List Nat} (ha : a.length = 32) (hl : r.length < 2 ^ 40) : Gives Try.prog F_ref11_Find [.dsl 34 (r.map enA), .iarr .u8 32 (ints a)] (.int .i64 (fiV r a)) := by
  refine v_ref11_Find (by simp) ?_
  simp -implicitDefEqProofs [a_ref11_Find, q_ref11_Find_0, q_ref11_Find_1, ha]
  intro g3
  refine X_lp (FinI r a g3) (fun i => r.length - i) 0 ⟨by omega, fun j h => by omega, by simp, by simp, by simp, by simp⟩ ?_
  rintro i env B ⟨hi, hno, e0, e3, e5, f3⟩
  simp -implicitDefEqProofs [q_ref11_Find_L6, q_ref11_Find_2, e0, e5]
  refine ⟨fun hlt => ?_, fun hge => ?_⟩
  · have hii : (i : Int) < r.length := by omega
    have wi : IntKind.i64.wrap ((i : Int) + 1) = (i : Int) + 1 := wrap_i64 (by omega)
    obtain ⟨e, he⟩ : ∃ e, e = r[i] := ⟨_, rfl⟩
    have hE : enA r[i] = .agg [.iarr .u8 32 (ints e.addr), .int .i64 e.slot, .int .i64 e.count] := by rw [he]; rfl
    have e32 := e.h32
    simp -implicitDefEqProofs [q_ref11_Find_3, e0, e3, e5, f3, hlt, hii, hE, ha, e32, eqA e32 ha]
    refine ⟨fun hy => ?_, fun hnn => ?_⟩
    · have hx : (tS 0).ixR r a = i := TS.ixR_eq hi hno (.inr ⟨hlt, by rw [← he]; exact hy⟩)
      have hf : fiV r a = i := by unfold fiV; rw [hx, if_pos hlt]
      simp -implicitDefEqProofs [q_ref11_Find_4, e5, a_ref11_Find, outOf, hf]
    · simp -implicitDefEqProofs [q_ref11_Find_5, e5, wi]
      refine lp_next (i + 1) ⟨by omega, fun j hj => ?_, by simp [e0], by simp [e3], by simp, by simp [f3]⟩ (by omega)
      rcases Nat.lt_succ_iff_lt_or_eq.1 hj with h | rfl
      · exact hno j h
      · rw [← he]; exact hnn
  · have hx : (tS 0).ixR r a = i := TS.ixR_eq hi hno (.inl (by omega))
    have hf : fiV r a = -1 := by unfold fiV; rw [hx, if_neg (by omega)]
    simp -implicitDefEqProofs [q_ref11_Find_6, a_ref11_Find, outOf, hf]
structure SamI (a b : List En) (i : Nat) (env : AEnv) (B : Heap) : Prop where
  le : i ≤ a.length
  eq : ∀ j, (h : j < i) → a[j]? = b[j]?
  e0 : env 0 = .dsl 34 (a.map enA)
  e1 : env 1 = .dsl 34 (b.map enA)
  e5 : env 5 = .int .i64 i
instance : DecidableEq En := fun e f => decidable_of_iff (e.addr = f.addr ∧ e.slot = f.slot ∧ e.count = f.count) ⟨fun ⟨h1, h2, h3⟩ => En.ext h1 h2 h3, fun h => by subst h; exact ⟨rfl, rfl, rfl⟩⟩
theorem en_eq (e f : En) : (!decide (e.addr = f.addr) || (!decide (e.slot = f.slot) || !decide (e.count = f.count))) = !decide (e = f) := by
  by_cases h : e = f
  · subst h; simp
  · have : ¬ (e.addr = f.addr ∧ e.slot = f.slot ∧ e.count = f.count) := fun ⟨h1, h2, h3⟩ => h (En.ext h1 h2 h3)
    rw [decide_eq_false h]
    by_cases h1 : e.addr = f.addr
    · by_cases h2 : e.slot = f.slot
      · have h3 : ¬ e.count = f.count := fun h3 => this ⟨h1, h2, h3⟩
        simp [h3]
      · simp [h2]
    · simp [h1]
theorem w_ref11_Same (a b : List En) (hl : a.length < 2 ^ 40) : Gives Try.prog F_ref11_Same [.dsl 34 (a.map enA), .dsl 34 (b.map enA)] (.bool (decide (a = b))) := by
  refine v_ref11_Same (by simp) ?_
  by_cases hlen : a.length = b.length
  · have hlen' : (a.length : Int) = b.length := by omega
    simp -implicitDefEqProofs [a_ref11_Same, q_ref11_Same_0, q_ref11_Same_1, q_ref11_Same_3, hlen, hlen']
    refine X_lp (SamI a b) (fun i => a.length - i) 0 ⟨by omega, fun j h => by omega, by simp, by simp, by simp⟩ ?_
    rintro i env B ⟨hi, heq, e0, e1, e5⟩
    simp -implicitDefEqProofs [q_ref11_Same_L8, q_ref11_Same_4, e0, e5]
    refine ⟨fun hlt => ?_, fun hge => ?_⟩
    · have hii : (i : Int) < a.length := by omega
      have hlb : i < b.length := by omega
      have hib : (i : Int) < b.length := by omega
      have wi : IntKind.i64.wrap ((i : Int) + 1) = (i : Int) + 1 := wrap_i64 (by omega)
      obtain ⟨e, he⟩ : ∃ e, e = a[i] := ⟨_, rfl⟩
      have hE : enA a[i] = .agg [.iarr .u8 32 (ints e.addr), .int .i64 e.slot, .int .i64 e.count] := by rw [he]; rfl
      obtain ⟨f, hf⟩ : ∃ f, f = b[i] := ⟨_, rfl⟩
      have hF : enA b[i] = .agg [.iarr .u8 32 (ints f.addr), .int .i64 f.slot, .int .i64 f.count] := by rw [hf]; rfl
      have e32 := e.h32
      have f32 := f.h32
      simp -implicitDefEqProofs [q_ref11_Same_5, e0, e1, e5, hlt, hii, hlb, hib, hE, hF, e32, f32, eqA e32 f32]
      rw [en_eq]
      refine ⟨fun hne => ?_, fun hee => ?_⟩
      · have hne : ¬ e = f := by simpa using hne
        have hab : ¬ a = b := fun e => hne (by rw [he, hf]; subst e; rfl)
        simp -implicitDefEqProofs [q_ref11_Same_6, a_ref11_Same, outOf, hab]
      · have hee : e = f := by simpa using hee
        simp -implicitDefEqProofs [q_ref11_Same_7, e5, wi]
        refine lp_next (i + 1) ⟨by omega, fun j hj => ?_, by simp [e0], by simp [e1], by simp⟩ (by omega)
        rcases Nat.lt_succ_iff_lt_or_eq.1 hj with h | rfl
        · exact heq j h
        · rw [List.getElem?_eq_getElem hlt, List.getElem?_eq_getElem hlb, ← he, ← hf, hee]
    · have hab : a = b := List.ext_getElem? fun j => by
        by_cases hj : j < i
        · exact heq j hj
        · rw [List.getElem?_eq_none (by omega), List.getElem?_eq_none (by omega)]
      simp -implicitDefEqProofs [q_ref11_Same_8, a_ref11_Same, outOf, hab]
  · have hlen' : ¬ (a.length : Int) = b.length := by omega
    have hab : ¬ a = b := fun e => hlen (by rw [e])
    simp -implicitDefEqProofs [a_ref11_Same, q_ref11_Same_0, q_ref11_Same_1, q_ref11_Same_2, hlen, hlen', hab, outOf]
end Go.Proofs.Ytilgdnbijkcboaa

/- The chapter's Put. -/
namespace Go.Proofs.Ytilgdnbijkcboaa
open Go AVL
attribute [-simp] AV.isAgg aappI aapp alen shp good comps szOK aslc List.reduceReplicate
set_option linter.unusedVariables false
set_option linter.unusedSimpArgs false
set_option maxRecDepth 8000

/-- Entries in memory. -/
def EnsAt (v : AV) (r : List En) (B : Heap) : Prop := RowAt T_api_Entry 34 v (r.map enA) B
theorem rowAt_vw {e : TypeId} {sz : Nat} {v : AV} {vs : List AV} {B : Heap} (h : RowAt e sz v vs B) : Vw B v (.dsl sz vs) := by
  rcases h with ⟨rfl, rfl⟩ | ⟨g, rfl, hg⟩
  · exact .nilD sz
  · exact .ownR (i := 0) (n := vs.length) hg (by simp) (by rw [List.drop_zero, List.take_of_length_le (by simp)]; exact Vws.refls _)
theorem EnsAt.mono {v : AV} {r : List En} {B C : Heap} (h : EnsAt v r B) (hs : B.Sub C) : EnsAt v r C := h.imp id fun ⟨g, h1, h2⟩ => ⟨g, h1, hs _ _ h2⟩
theorem EnsAt.len {v : AV} {r : List En} {B : Heap} (h : EnsAt v r B) {F : AV → Prop} : alen false v F = F (.int .i64 r.length) := by
  rw [RowAt.len h, List.length_map]
theorem EnsAt.pos {v : AV} {r : List En} {B : Heap} (h : EnsAt v r B) (hp : 0 < r.length) : ∃ g, v = .own g 0 r.length ∧ B g = some (.row T_api_Entry 34 (r.map enA)) := by
  obtain ⟨g, h1, h2⟩ := RowAt.pos h (by simpa using hp)
  exact ⟨g, by rw [h1, List.length_map], h2⟩
theorem slR_ens {v : AV} {r : List En} {A B : Heap} (h : SlR T_api_Entry 34 v (r.map enA) A B) : EnsAt v r B := h.rowAt
theorem slR_fresh {e : TypeId} {sz : Nat} {v : AV} {m : List AV} {A Y B : Heap} (hs : A.Sub Y) (h : SlR e sz v m Y B) : ∀ g k, v = .own g 0 k → A g = none := by
  rintro g k rfl
  exact sub_noneL hs h.at.1
structure PuI (n : Nat) (e : En) (r : List En) (v : AV) (g5 : Nat) (A : Heap) (s : Nat × Bool × List En × AV) (env : AEnv) (B : Heap) : Prop where
  le : s.1 ≤ r.length
  st : (s.2.1 = false ∧ s.2.2.1 ++ (tS n).putR e (r.drop s.1) = (tS n).putR e r) ∨ (s.2.1 = true ∧ s.2.2.1 ++ r.drop s.1 = (tS n).putR e r ∧ ∀ j : Nat, s.1 ≤ j → fiV r e.addr ≠ j)
  ol : s.2.2.1.length ≤ s.1 + (if s.2.1 = true then 1 else 0)
  e0 : env 0 = v
  e5 : env 5 = .ptr g5 0
  e8 : env 8 = .int .i64 (fiV r e.addr)
  e9 : env 9 = s.2.2.2
  e10 : env 10 = .bool s.2.1
  e11 : env 11 = .int .i64 s.1
  w : SlR T_api_Entry 34 s.2.2.2 (s.2.2.1.map enA) A B
theorem fiV_lt (r : List En) (a : List Nat) : -1 ≤ fiV r a ∧ fiV r a < r.length := by
  unfold fiV; split <;> omega
section
variable {A : Heap} {K Kp : AV → Heap → Prop} {n : Nat} {r : List En} {v : AV}
theorem fiV_key {r : List En} {a : List Nat} {j : Nat} (h : fiV r a = j) : ∃ hj : j < r.length, (r[j]).addr = a := by
  unfold fiV at h
  split at h
  · rename_i hlt
    have hj : (tS 0).ixR r a = j := by omega
    subst hj
    exact ⟨hlt, TS.ixR_key hlt⟩
  · omega
theorem fiV_at {n : Nat} {r : List En} (hr : (tS n).Rise r) {a : List Nat} {j : Nat} (hj : j < r.length) (h : (r[j]).addr = a) : fiV r a = j := by
  have hlt : (tS n).ixR r a < r.length := TS.ixR_lt.2 ⟨r[j], List.getElem_mem hj, h⟩
  have hk := TS.ixR_key hlt
  have := hr.key_inj hlt hj (hk.trans h.symm)
  unfold fiV
  rw [← ixR_any n, if_pos hlt, this]
abbrev puMu (r : List En) : Nat × Bool × List En × AV → Nat := fun s => r.length - s.1
/-- Behind the place of the new one: what stands there is kept, but for what is replaced. -/
theorem rput_13 {R : APost} {k : Kt} {e : En} {g5 i : Nat} {put : Bool} {out : List En} {w : AV} {s0 : Nat × Bool × List En × AV} {env : AEnv} {B : Heap} (hrl : r.length < 2 ^ 40) (hv : EnsAt v r A) (hi : i < r.length) (hs0 : s0.1 = i)
    (e0 : env 0 = v) (e5 : env 5 = .ptr g5 0) (e8 : env 8 = .int .i64 (fiV r e.addr)) (e9 : env 9 = w) (e10 : env 10 = .bool put) (e11 : env 11 = .int .i64 i) (hw : SlR T_api_Entry 34 w (out.map enA) A B) (hol : out.length ≤ i + (if put = true then 1 else 0))
    (hst : ∀ out', (fiV r e.addr = i ∧ out' = out) ∨ (fiV r e.addr ≠ i ∧ out' = out ++ [r[i]]) → (put = false ∧ out' ++ (tS n).putR e (r.drop (i + 1)) = (tS n).putR e r) ∨ (put = true ∧ out' ++ r.drop (i + 1) = (tS n).putR e r ∧ ∀ j : Nat, i + 1 ≤ j → fiV r e.addr ≠ j)) :
    XO Try.prog (lp Try.prog R k (PuI n e r v g5 A) (puMu r) s0) q_ref11_Put_13 (.thn (.cond (.t 55) (.region q_ref11_Put_14) .skip) (.blk 1 (.thn (.region q_ref11_Put_15) .done))) env B := by
  have wi : IntKind.i64.wrap ((i : Int) + 1) = (i : Int) + 1 := wrap_i64 (by omega)
  have hii : (i : Int) < r.length := by omega
  have hf1 := fiV_lt r e.addr
  obtain ⟨f, hf⟩ : ∃ f, f = fiV r e.addr := ⟨_, rfl⟩
  rw [← hf] at e8 hst hf1
  obtain ⟨r15, h15⟩ : ∃ r, r = q_ref11_Put_15 := ⟨_, rfl⟩; rw [← h15]
  by_cases hfi : f = (i : Int)
  · subst hfi
    simp -implicitDefEqProofs [q_ref11_Put_13, e8, e11]
    simp -implicitDefEqProofs [h15, q_ref11_Put_15, e11, wi]
    exact lp_next (i + 1, put, out, w) ⟨hi, by rw [← hf]; exact hst out (.inl ⟨rfl, rfl⟩), by simp only; omega, by simp [e0], by simp [e5], by simp [e8, ← hf], by simp [e9], by simp [e10], by simp, hw⟩ (by simp only [puMu]; omega)
  · have hfi' : ¬ (i : Int) = f := fun e => hfi e.symm
    obtain ⟨g, hvg, hg⟩ := hv.pos (by omega)
    have hgB := hw.sub _ _ hg
    obtain ⟨x, hx⟩ : ∃ x, x = r[i] := ⟨_, rfl⟩
    have hX : enA r[i] = .agg [.iarr .u8 32 (ints x.addr), .int .i64 x.slot, .int .i64 x.count] := by rw [hx]; rfl
    have x32 := x.h32
    obtain ⟨r14, h14⟩ : ∃ r, r = q_ref11_Put_14 := ⟨_, rfl⟩; rw [← h14]
    simp -implicitDefEqProofs [q_ref11_Put_13, e8, e11, hfi, hfi']
    subst e9
    rw [hvg] at e0
    simp -implicitDefEqProofs [h14, q_ref11_Put_14, e0, e11, hgB, hi, hii]
    rw [hX]
    simp -implicitDefEqProofs [x32, shp, good, comps]
    intro g1 hg1
    refine hw.appS (ys := [.agg [.iarr .u8 32 (ints x.addr), .int .i64 x.slot, .int .i64 x.count]]) (sub_none hg1) (src_row set_eq' rfl) rfl (by simp; split at hol <;> omega) fun g' n' C2 hn' hv2 => ?_
    have hv2' : SlR T_api_Entry 34 (.own g' 0 n') ((out ++ [r[i]]).map enA) A C2 := by
      rw [List.map_append, List.map_cons, List.map_nil, hX]; exact hv2
    simp -implicitDefEqProofs [h15, q_ref11_Put_15, e11, wi]
    exact lp_next (i + 1, put, out ++ [r[i]], .own g' 0 n') ⟨hi, by rw [← hf]; exact hst _ (.inr ⟨hfi, rfl⟩), by simp only [List.length_append, List.length_singleton]; omega, by simp [e0, hvg], by simp [e5], by simp [e8, ← hf], by simp, by simp [e10], by simp, hv2'⟩ (by simp only [puMu]; omega)
theorem rput_loop {R : APost} {e : En} {g5 : Nat} {s : Nat × Bool × List En × AV} {env : AEnv} {B : Heap} (hrl : r.length < 2 ^ 40) (hr : (tS n).Rise r) (hv : EnsAt v r A) (h5 : A g5 = some (.var T_api_Entry [.iarr .u8 32 (ints e.addr), .int .i64 e.slot, .int .i64 e.count]))
    (h0 : PuI n e r v g5 A s env B) (hk : ∀ env' B' w, env' 9 = w → SlR T_api_Entry 34 w (((tS n).putR e r).map enA) A B' → X Try.prog R (.seq (.region q_ref11_Put_18) .ret) .done env' B') :
    X Try.prog R (.seq (.block 0 (.loop q_ref11_Put_L16)) (.seq (.seq (.region q_ref11_Put_16) (.cond (.t 64) (.region q_ref11_Put_17) .skip)) (.seq (.region q_ref11_Put_18) .ret))) .done env B := by
  have e32 := e.h32
  simp -implicitDefEqProofs
  refine X_lp (PuI n e r v g5 A) (puMu r) s h0 ?_
  rintro ⟨i, put, out, w⟩ env B ⟨hi, hst, hol, e0, e5, e8, e9, e10, e11, hw⟩
  simp only at hi hst hol e9 e10 e11 hw
  have b5 := hw.sub _ _ h5
  have hob : out.length < 2 ^ 41 := by split at hol <;> omega
  have hlen : ∀ F : AV → Prop, alen false v F = F (.int .i64 r.length) := fun F => hv.len
  rw [q_ref11_Put_L16]
  obtain ⟨r10, h10⟩ : ∃ r, r = q_ref11_Put_10 := ⟨_, rfl⟩; rw [← h10]
  obtain ⟨r13, h13⟩ : ∃ r, r = q_ref11_Put_13 := ⟨_, rfl⟩; rw [← h13]
  obtain ⟨r16, h16⟩ : ∃ r, r = q_ref11_Put_16 := ⟨_, rfl⟩; rw [← h16]
  simp -implicitDefEqProofs [q_ref11_Put_9, e0, e11, hlen]
  refine ⟨fun hlt => ?_, fun hge => ?_⟩
  · have hii : (i : Int) < r.length := by omega
    obtain ⟨x, hx⟩ : ∃ x, x = r[i] := ⟨_, rfl⟩
    have hX : enA r[i] = .agg [.iarr .u8 32 (ints x.addr), .int .i64 x.slot, .int .i64 x.count] := by rw [hx]; rfl
    have x32 := x.h32
    have hdr : r.drop i = x :: r.drop (i + 1) := by rw [List.drop_eq_getElem_cons hlt, hx]
    obtain ⟨g, hvg, hg⟩ := hv.pos (by omega)
    have hgB := hw.sub _ _ hg
    have hl := w_ref11_less x32 e32
    rcases hst with ⟨rfl, hst⟩ | ⟨rfl, hst, hst2⟩
    · rw [hdr] at hst
      have e0' := e0
      rw [hvg] at e0'
      have hpu : (tS n).putR e (x :: r.drop (i + 1)) = if lessL x.addr e.addr = true then x :: (tS n).putR e (r.drop (i + 1)) else if x.addr = e.addr then e :: r.drop (i + 1) else e :: x :: r.drop (i + 1) := rfl
      rw [hpu] at hst
      simp -implicitDefEqProofs [h10, q_ref11_Put_10, e0', e5, e10, e11, hgB, hlt, hii, b5, hX, x32, e32, shp, comps]
      refine hl.call (.cons (.refl _) rfl (.cons (.refl _) rfl .nil)) rfl ?_
      by_cases hlx : lessL x.addr e.addr = true
      · rw [if_pos hlx] at hst
        rw [hlx]
        simp -implicitDefEqProofs
        rw [h13]
        refine rput_13 hrl hv hlt rfl (by simp [e0]) (by simp [e5]) (by simp [e8]) (by simp [e9]) (by simp [e10]) (by simp [e11]) hw hol fun out' ho => .inl ⟨rfl, ?_⟩
        rcases ho with ⟨h, _⟩ | ⟨_, rfl⟩
        · obtain ⟨_, hk⟩ := fiV_key h
          rw [← hx] at hk
          rw [hk, lessL_lt] at hlx
          simp [List.lt_irrefl] at hlx
        · rw [← hx, ← hst]; simp
      · rw [if_neg hlx] at hst
        have hlx' : lessL x.addr e.addr = false := by simpa using hlx
        rw [hlx']
        obtain ⟨r12, h12⟩ : ∃ r, r = q_ref11_Put_12 := ⟨_, rfl⟩; rw [← h12]
        simp -implicitDefEqProofs [q_ref11_Put_11, e5, b5, e32, shp, good, comps]
        intro g1 hg1
        rw [e9]
        refine hw.appS (ys := [.agg [.iarr .u8 32 (ints e.addr), .int .i64 e.slot, .int .i64 e.count]]) (sub_none hg1) (src_row set_eq' rfl) rfl (by simp; omega) fun g' n' C2 hn' hv2 => ?_
        have hv2' : SlR T_api_Entry 34 (.own g' 0 n') ((out ++ [e]).map enA) A C2 := by
          rw [List.map_append, List.map_cons, List.map_nil]; exact hv2
        simp -implicitDefEqProofs [h12, q_ref11_Put_12]
        rw [h13]
        have hol2 : out.length ≤ i := by simpa using hol
        refine rput_13 (put := true) hrl hv hlt rfl (by simp [e0]) (by simp [e5]) (by simp [e8]) (by simp) (by simp) (by simp [e11]) hv2' (by simp; omega) fun out' ho => .inr ⟨rfl, ?_⟩
        rcases ho with ⟨h, rfl⟩ | ⟨h, rfl⟩
        · obtain ⟨_, hk⟩ := fiV_key h
          rw [← hx] at hk
          rw [if_pos hk] at hst
          exact ⟨by rw [← hst]; simp, fun j hj => by rw [h]; omega⟩
        · have hk : ¬ x.addr = e.addr := fun hk => h (fiV_at hr hlt (by rw [← hx]; exact hk))
          rw [if_neg hk] at hst
          refine ⟨by rw [← hst, ← hx]; simp, fun j hj hje => ?_⟩
          obtain ⟨hjl, hkj⟩ := fiV_key hje
          have hp := List.pairwise_iff_getElem.1 hr i j hlt hjl (by omega)
          have hp' : lessL r[i].addr r[j].addr = true := hp
          rw [hkj, ← hx] at hp'
          exact hlx hp'
    · simp -implicitDefEqProofs [h10, q_ref11_Put_10, e10]
      rw [h13]
      refine rput_13 hrl hv hlt rfl (by simp [e0]) (by simp [e5]) (by simp [e8]) (by simp [e9]) (by simp [e10]) (by simp [e11]) hw hol fun out' ho => .inr ⟨rfl, ?_, fun j hj => hst2 j (by omega)⟩
      rcases ho with ⟨h, _⟩ | ⟨_, rfl⟩
      · exact absurd h (hst2 i (by omega))
      · rw [← hx, ← hst, hdr]; simp
  · have hie : i = r.length := by omega
    rw [List.drop_of_length_le (by omega)] at hst
    rcases hst with ⟨rfl, hst⟩ | ⟨rfl, hst, _⟩
    · obtain ⟨r17, h17⟩ : ∃ r, r = q_ref11_Put_17 := ⟨_, rfl⟩; rw [← h17]
      obtain ⟨r18, h18⟩ : ∃ r, r = q_ref11_Put_18 := ⟨_, rfl⟩; rw [← h18]
      simp -implicitDefEqProofs [h16, q_ref11_Put_16, e10]
      simp -implicitDefEqProofs [h17, q_ref11_Put_17, e5, b5, e32, shp, good, comps]
      intro g1 hg1
      rw [e9]
      refine hw.appS (ys := [.agg [.iarr .u8 32 (ints e.addr), .int .i64 e.slot, .int .i64 e.count]]) (sub_none hg1) (src_row set_eq' rfl) rfl (by simp; omega) fun g' n' C2 hn' hv2 => ?_
      have hv2' : SlR T_api_Entry 34 (.own g' 0 n') (((tS n).putR e r).map enA) A C2 := by
        rw [← hst, List.map_append]; exact hv2
      simp -implicitDefEqProofs
      rw [h18]
      exact hk _ _ _ (by simp) hv2'
    · obtain ⟨r18, h18⟩ : ∃ r, r = q_ref11_Put_18 := ⟨_, rfl⟩; rw [← h18]
      simp -implicitDefEqProofs [h16, q_ref11_Put_16, e10]
      rw [h18]
      rw [List.append_nil] at hst
      exact hk _ _ w (by simp [e9]) (by rw [← hst]; exact hw)
theorem w_ref11_Put (hn : n < 2 ^ 40) (hrl : r.length < 2 ^ 40) (hr : (tS n).Rise r) (hv : EnsAt v r A) (e : En)
    (hk : ∀ v' B', A.Sub B' → EnsAt v' (putT n r e) B' → (v' = v ∨ ∀ g m, v' = .own g 0 m → A g = none) → K (.tuple [v', .int .i64 (putC n r e)]) B') : SimX Try.prog F_ref11_Put [v, .int .i64 ((n + 1 : Nat) : Int), enA e] A (outK K Kp) := by
  have e32 := e.h32
  have hE : enA e = .agg [.iarr .u8 32 (ints e.addr), .int .i64 e.slot, .int .i64 e.count] := rfl
  have key : ∀ x : En, (tS n).key x = x.addr := fun _ => rfl
  have hs := hv.scl
  obtain ⟨N, hN⟩ : ∃ N : Nat, N = n + 1 := ⟨_, rfl⟩
  rw [← hN]
  refine j_ref11_Put (by simp) ?_
  unfold a_ref11_Put
  obtain ⟨r3, h3⟩ : ∃ r, r = q_ref11_Put_3 := ⟨_, rfl⟩; rw [← h3]
  rw [hE]
  simp -implicitDefEqProofs [q_ref11_Put_0, q_ref11_Put_1, e32, shp, good, comps]
  intro g5 hg5
  obtain ⟨Y, hY⟩ : ∃ Y, Y = A.set g5 (.var T_api_Entry [.iarr .u8 32 (ints e.addr), .int .i64 e.slot, .int .i64 e.count]) := ⟨_, rfl⟩
  rw [← hY]
  have hsY : A.Sub Y := by rw [hY]; exact sub_none hg5
  have y5 : Y g5 = some (.var T_api_Entry [.iarr .u8 32 (ints e.addr), .int .i64 e.slot, .int .i64 e.count]) := by rw [hY, set_eq']
  have hvY := hv.mono hsY
  clear hY
  refine (w_ref11_right e).call (.cons (.refl _) rfl .nil) rfl ?_
  by_cases hri : rightE e
  · rw [decide_eq_true hri]
    have hC0 : putC n r e = if ∃ x ∈ r, x.addr = e.addr then 0 else if n < r.length + 1 then 6 else 0 := by unfold putC; rw [if_neg (by simpa using hri)]
    obtain ⟨r4, h4⟩ : ∃ r, r = q_ref11_Put_4 := ⟨_, rfl⟩; rw [← h4]
    simp -implicitDefEqProofs [h3, q_ref11_Put_3, y5, e32, shp, good, comps, hs.shp, hs.good, hs.comps, hs.agg]
    refine (w_ref11_Find r e32 hrl).call (.cons (rowAt_vw hvY) hs.agg (.cons (.refl _) rfl .nil)) rfl ?_
    have hlen : ∀ F : AV → Prop, alen false v F = F (.int .i64 r.length) := fun F => hv.len
    have hfl := fiV_lt r e.addr
    have hw1 : IntKind.i64.wrap ((r.length : Int) + 1) = (r.length : Int) + 1 := wrap_i64 (by omega)
    have hiff : fiV r e.addr < 0 ↔ ¬ ∃ x ∈ r, x.addr = e.addr := by
      constructor
      · rintro h ⟨x, hx, hxa⟩
        obtain ⟨i, hi, rfl⟩ := List.getElem_of_mem hx
        have := fiV_at hr hi hxa
        omega
      · intro h
        unfold fiV
        rw [if_neg]
        · omega
        · intro hlt
          exact h (TS.ixR_lt.1 hlt)
    have tail : (¬ (fiV r e.addr < 0 ∧ n < r.length + 1)) → ∀ env', env' 0 = v → env' 5 = .ptr g5 0 → env' 8 = .int .i64 (fiV r e.addr) →
        X Try.prog (inl [ARes.tmp 6, ARes.tmp 7] K Kp) (.seq (.region q_ref11_Put_6) (.seq (.region q_ref11_Put_7) (.seq (.seq (.region q_ref11_Put_8) (.block 0 (.loop q_ref11_Put_L16))) (.seq (.seq (.region q_ref11_Put_16) (.cond (.t 64) (.region q_ref11_Put_17) .skip)) (.seq (.region q_ref11_Put_18) .ret))))) .done env' Y := by
      intro hno env' f0 f5 f8
      have hC1 : putC n r e = 0 := by
        rw [hC0]
        by_cases hex : ∃ x ∈ r, x.addr = e.addr
        · rw [if_pos hex]
        · rw [if_neg hex, if_neg (fun h => hno ⟨hiff.2 hex, h⟩)]
      have hTt : putT n r e = (tS n).putR e r := by unfold putT; rw [hC1]; rfl
      rw [hC1, hTt] at hk
      simp -implicitDefEqProofs [q_ref11_Put_6, q_ref11_Put_7, q_ref11_Put_8]
      refine rput_loop (s := (0, false, [], .nilS)) hrl hr hvY y5 ⟨by simp, .inl ⟨rfl, by simp⟩, by simp, by simp [f0], by simp [f5], by simp [f8], by simp, by simp, by simp, SlR.nil (Sub_refl _)⟩ fun env2 B2 w f9 hw => ?_
      simp -implicitDefEqProofs [q_ref11_Put_18, f9, outOf]
      exact hk _ _ (sub_tr hsY hw.sub) (slR_ens hw) (.inr (slR_fresh hsY hw))
    by_cases h0 : fiV r e.addr < 0
    · by_cases hf : n < r.length + 1
      · have hC1 : putC n r e = 6 := by rw [hC0, if_neg (hiff.1 h0), if_pos hf]
        have hTt : putT n r e = r := by unfold putT; rw [hC1]; rfl
        rw [hC1, hTt] at hk
        have hge : (N : Int) ≤ (r.length : Int) + 1 := by omega
        simp -implicitDefEqProofs [h4, q_ref11_Put_4, q_ref11_Put_5, h0, hlen, hw1, hge, outOf]
        exact hk _ _ hsY hvY (.inl rfl)
      · have hge : ¬ (N : Int) ≤ (r.length : Int) + 1 := by omega
        have tl := tail (fun h => hf h.2)
        simp -implicitDefEqProofs [h4, q_ref11_Put_4, h0, hlen, hw1, hge]
        exact tl _ (by simp) (by simp) (by simp)
    · have tl := tail (fun h => h0 h.1)
      simp -implicitDefEqProofs [h4, q_ref11_Put_4, h0]
      exact tl _ (by simp) (by simp) (by simp)
  · rw [decide_eq_false hri]
    have hC : putC n r e = 2 := by unfold putC; rw [if_pos hri]
    have hTt : putT n r e = r := by unfold putT; rw [hC]; rfl
    rw [hC, hTt] at hk
    simp -implicitDefEqProofs [q_ref11_Put_2, outOf]
    exact hk _ _ hsY hvY (.inl rfl)
end
end Go.Proofs.Ytilgdnbijkcboaa

/- The chapter's Drop. -/
namespace Go.Proofs.Ytilgdnbijkcboaa
open Go AVL
attribute [-simp] AV.isAgg aappI aapp alen shp good comps szOK aslc List.reduceReplicate
set_option linter.unusedVariables false
set_option linter.unusedSimpArgs false
set_option maxRecDepth 8000

section
variable {A : Heap} {K Kp : AV → Heap → Prop} {n : Nat} {r : List En} {v : AV}
end
end Go.Proofs.Ytilgdnbijkcboaa

/- The chapter's lay, and Places. -/
namespace Go.Proofs.Ytilgdnbijkcboaa
open Go AVL
attribute [-simp] AV.isAgg aappI aapp alen szOK aslc List.reduceReplicate
set_option linter.unusedVariables false
set_option linter.unusedSimpArgs false
set_option maxRecDepth 8000

structure LayI (n h g7 c : Nat) (r : List En) (A : Heap) (s : List En × En × Nat) (env : AEnv) (B : Heap) : Prop where
  car : TS.CarL (tS n) s.1 s.2.1 s.2.2 r
  cl : c < n + 1
  ce : (tS n).emp ((tS n).fn s.1 c) = true
  e5 : env 5 = .int .i64 ((n + 1 : Nat) : Int)
  e6 : env 6 = .own h 0 s.1.length
  e7 : env 7 = .ptr g7 0
  e8 : env 8 = .int .i64 s.2.2
  ch : B h = some (.row T_api_Entry 34 (s.1.map enA))
  f7 : B g7 = some (.var T_api_Entry [.iarr .u8 32 (ints s.2.1.addr), .int .i64 s.2.1.slot, .int .i64 s.2.1.count])
  kp : A.Sub B
section
variable {A : Heap} {K Kp : AV → Heap → Prop} {n : Nat} {L r : List En} {v : AV}
theorem lay_loop (hn : n < 2 ^ 40) {h g7 c : Nat} {r : List En} (hpos : ∀ x ∈ r, 0 < x.count) (hh : A h = none) (h7 : A g7 = none) {s : List En × En × Nat} {env : AEnv} {B : Heap} (h0 : LayI n h g7 c r A s env B) {R : APost}
    (hk : ∀ env' B' L', TS.Tab (tS n) L' r → env' 6 = .own h 0 L'.length → B' h = some (.row T_api_Entry 34 (L'.map enA)) → A.Sub B' → X Try.prog R (.seq (.region q_ref11_lay_13) .ret) .done env' B') :
    X Try.prog R (.seq (.block 0 (.loop q_ref11_lay_L12)) (.seq (.region q_ref11_lay_12) (.seq (.region q_ref11_lay_13) .ret))) .done env B := by
  simp -implicitDefEqProofs
  refine X_lp (LayI n h g7 c r A) (fun s => (tS n).gap c s.2.2) s h0 ?_
  rintro ⟨M, now, at_⟩ env B ⟨car, cl, ce, e5, e6, e7, e8, ch, f7, kp⟩
  simp only at car ce e6 e8 ch f7
  have hlt : at_ < n + 1 := car.car.lt
  have hM : M.length = n + 1 := car.len
  have hal : at_ < M.length := by omega
  have hai : (at_ : Int) < M.length := by omega
  have n7h : ¬ g7 = h := fun e => by rw [e, ch] at f7; cases f7
  have hfn : (tS n).fn M at_ = M[at_] := tS_fn hal
  obtain ⟨e, he⟩ : ∃ e, e = M[at_] := ⟨_, rfl⟩
  have hE : enA M[at_] = .agg [.iarr .u8 32 (ints e.addr), .int .i64 e.slot, .int .i64 e.count] := by rw [he]; rfl
  have hce : 0 ≤ e.count := by
    rcases Decidable.em (e.count = 0) with h1 | h1
    · omega
    · have := hpos e ((car.has e).1 (.inr ⟨at_, hlt, by rw [hfn, he], decide_eq_false h1⟩))
      omega
  have n32 := now.h32
  have e32 := e.h32
  have ef : (tS n).emp ((tS n).fn M at_) = decide (e.count = 0) := by rw [hfn, ← he]; rfl
  have hset : (List.map enA M).set at_ (.agg [.iarr .u8 32 (ints now.addr), .int .i64 now.slot, .int .i64 now.count]) = (M.set at_ now).map enA := by rw [List.map_set]; rfl
  rw [q_ref11_lay_L12]
  obtain ⟨r7, hr7⟩ : ∃ r, r = q_ref11_lay_7 := ⟨_, rfl⟩; rw [← hr7]
  obtain ⟨r12, hr12⟩ : ∃ r, r = q_ref11_lay_12 := ⟨_, rfl⟩; rw [← hr12]
  simp -implicitDefEqProofs [q_ref11_lay_6, e6, e8, ch, hal, hai]
  rw [hE]
  by_cases hc : 0 < e.count
  · have hemp : (tS n).emp ((tS n).fn M at_) = false := by rw [ef]; exact decide_eq_false (by omega)
    have hgap := car.gap cl ce hemp
    have hg := w_ref11_goes hn now e hlt
    have hw1 : IntKind.i64.wrap ((at_ : Int) + 1) = (at_ : Int) + 1 := wrap_i64 (by omega)
    have e2 := nxt_eq hlt
    obtain ⟨p1, hp1⟩ : ∃ p1, p1 = (tS n).nxt at_ := ⟨_, rfl⟩
    have hp1l : p1 < n + 1 := by rw [hp1]; exact TS.nxt_lt hlt
    rw [← hp1] at e2 hgap
    have hw3 : IntKind.i64.wrap (p1 : Int) = (p1 : Int) := wrap_i64 (by omega)
    obtain ⟨N, hN⟩ : ∃ N : Nat, N = n + 1 := ⟨_, rfl⟩
    have hNn0 : ¬ (N : Int) = 0 := by omega
    have hNn1 : ¬ N = 0 := by omega
    rw [← hN] at e2 hg e5
    obtain ⟨r11, hr11⟩ : ∃ r, r = q_ref11_lay_11 := ⟨_, rfl⟩; rw [← hr11]
    simp -implicitDefEqProofs [hc]
    simp -implicitDefEqProofs [hr7, q_ref11_lay_7, e5, e6, e7, e8, f7, ch, hal, hai, hE, n32, e32]
    refine hg.call (.cons (.refl _) rfl (.cons (.refl _) rfl (.cons (.refl _) rfl (.cons (.refl _) rfl .nil)))) rfl ?_
    by_cases hP : (tS n).far e at_ < (tS n).far now at_ ∨ ((tS n).far e at_ = (tS n).far now at_ ∧ lessL now.addr e.addr = true)
    · rw [decide_eq_true hP]
      have hb : (tS n).beats now ((tS n).fn M at_) at_ := by unfold TS.beats; rw [hfn, ← he]; exact hP
      have car' := car.swap hemp hb
      rw [hfn, ← he, ← hp1] at car'
      obtain ⟨r9, hr9⟩ : ∃ r, r = q_ref11_lay_9 := ⟨_, rfl⟩; rw [← hr9]
      obtain ⟨r10, hr10⟩ : ∃ r, r = q_ref11_lay_10 := ⟨_, rfl⟩; rw [← hr10]
      simp -implicitDefEqProofs [q_ref11_lay_8, e6, e8, ch, hal, hai]
      rw [hE]
      simp -implicitDefEqProofs [e32]
      intro g9 hg9
      have n9h : ¬ h = g9 := fun e => by rw [← e, ch] at hg9; cases hg9
      have n97 : ¬ g7 = g9 := fun e => by rw [← e, f7] at hg9; cases hg9
      obtain ⟨Z, hZ⟩ : ∃ Z, Z = B.set g9 (.var T_api_Entry [.iarr .u8 32 (ints e.addr), .int .i64 e.slot, .int .i64 e.count]) := ⟨_, rfl⟩
      have hZ' : B.set g9 (.var 32 [.iarr .u8 32 (ints e.addr), .int .i64 e.slot, .int .i64 e.count]) = Z := hZ.symm
      simp only [hZ']
      have zh : Z h = some (.row T_api_Entry 34 (M.map enA)) := by rw [hZ, set_ne' n9h]; exact ch
      have z7 : Z g7 = some (.var T_api_Entry [.iarr .u8 32 (ints now.addr), .int .i64 now.slot, .int .i64 now.count]) := by rw [hZ, set_ne' n97]; exact f7
      have z9 : Z g9 = some (.var T_api_Entry [.iarr .u8 32 (ints e.addr), .int .i64 e.slot, .int .i64 e.count]) := by rw [hZ, set_eq']
      have hkz : A.Sub Z := by rw [hZ]; exact sub_new kp hg9
      clear hZ hZ'
      simp -implicitDefEqProofs [hr9, q_ref11_lay_9, e6, e7, e8, z7, zh, hal, hai, n32]
      rw [hE, setEl_en]
      simp -implicitDefEqProofs
      obtain ⟨Y, hY⟩ : ∃ Y, Y = Z.set h (.row T_api_Entry 34 ((List.map enA M).set at_ (.agg [.iarr .u8 32 (ints now.addr), .int .i64 now.slot, .int .i64 now.count]))) := ⟨_, rfl⟩
      rw [← hY]
      have yh : Y h = some (.row T_api_Entry 34 ((M.set at_ now).map enA)) := by rw [hY, set_eq', hset]
      have y7 : Y g7 = some (.var T_api_Entry [.iarr .u8 32 (ints now.addr), .int .i64 now.slot, .int .i64 now.count]) := by rw [hY, set_ne' n7h]; exact z7
      have y9 : Y g9 = some (.var T_api_Entry [.iarr .u8 32 (ints e.addr), .int .i64 e.slot, .int .i64 e.count]) := by rw [hY, set_ne' (fun e => n9h e.symm)]; exact z9
      have hky : A.Sub Y := by rw [hY]; exact sub_set' hkz hh
      clear hY
      simp -implicitDefEqProofs [hr10, q_ref11_lay_10, e7, y9, y7, e32]
      simp -implicitDefEqProofs [hr11, q_ref11_lay_11, e5, e8, hw1, e2, hw3, hNn0, hNn1]
      refine lp_next (M.set at_ now, e, p1) ⟨car', cl, hgap.2, by simp [e5, hN], by simp [e6], by simp [e7], by simp, ?_, set_eq', sub_set' hky h7⟩ (by simp only; omega)
      rw [set_ne' (fun e => n7h e.symm)]; exact yh
    · rw [decide_eq_false hP]
      have hb : ¬ (tS n).beats now ((tS n).fn M at_) at_ := by unfold TS.beats; rw [hfn, ← he]; exact hP
      have car' := car.pass hemp hb
      rw [← hp1] at car'
      simp -implicitDefEqProofs [hr11, q_ref11_lay_11, e5, e8, hw1, e2, hw3, hNn0, hNn1]
      exact lp_next (M, now, p1) ⟨car', cl, ce, by simp [e5, hN], by simp [e6], by simp [e7], by simp, ch, f7, kp⟩ (by simp only; omega)
  · have hc0 : e.count = 0 := by omega
    have hemp : (tS n).emp ((tS n).fn M at_) = true := by rw [ef]; exact decide_eq_true hc0
    have hfin := car.fin hemp
    obtain ⟨r13, hr13⟩ : ∃ r, r = q_ref11_lay_13 := ⟨_, rfl⟩; rw [← hr13]
    simp -implicitDefEqProofs [hc0]
    simp -implicitDefEqProofs [hr12, q_ref11_lay_12, e6, e7, e8, f7, ch, hal, hai, n32]
    rw [hE, setEl_en]
    simp -implicitDefEqProofs
    rw [hr13]
    refine hk _ _ _ hfin (by simp [e6]) (by rw [set_eq', List.map_set]; rfl) (sub_set' kp hh)
end
end Go.Proofs.Ytilgdnbijkcboaa

/- The chapter's lay, and Places: whole. -/
namespace Go.Proofs.Ytilgdnbijkcboaa
open Go AVL
attribute [-simp] AV.isAgg aappI aapp alen szOK aslc List.reduceReplicate
set_option linter.unusedVariables false
set_option linter.unusedSimpArgs false
set_option maxRecDepth 8000

section
variable {A : Heap} {K Kp : AV → Heap → Prop} {n : Nat} {L r : List En} {v : AV}
theorem w_ref11_lay (hn : n < 2 ^ 40) {r' : List En} (hT : (tS n).Tab L r) (hpos : ∀ x ∈ r', 0 < x.count) (hv : EnsAt v L A) (e : En) (he : e.count ≠ 0) (habs : ∀ x ∈ r, x.addr ≠ e.addr) (hr : ∀ x, x ∈ r' ↔ x = e ∨ x ∈ r) (hl : r'.length = r.length + 1) (hroom : r.length < n)
    (hk : ∀ v' B' L', A.Sub B' → TS.Tab (tS n) L' r' → EnsAt v' L' B' → K v' B') : SimX Try.prog F_ref11_lay [v, enA e] A (outK K Kp) := by
  have hL : L.length = n + 1 := hT.len
  have e32 := e.h32
  have hE : enA e = .agg [.iarr .u8 32 (ints e.addr), .int .i64 e.slot, .int .i64 e.count] := rfl
  obtain ⟨g, hvg, hg⟩ := hv.pos (by omega)
  subst hvg
  refine j_ref11_lay (by simp) ?_
  unfold a_ref11_lay
  rw [hE]
  obtain ⟨r3, hr3⟩ : ∃ r, r = q_ref11_lay_3 := ⟨_, rfl⟩; rw [← hr3]
  obtain ⟨r4, hr4⟩ : ∃ r, r = q_ref11_lay_4 := ⟨_, rfl⟩; rw [← hr4]
  obtain ⟨r5, hr5⟩ : ∃ r, r = q_ref11_lay_5 := ⟨_, rfl⟩; rw [← hr5]
  obtain ⟨r12, hr12⟩ : ∃ r, r = q_ref11_lay_12 := ⟨_, rfl⟩; rw [← hr12]
  obtain ⟨r13, hr13⟩ : ∃ r, r = q_ref11_lay_13 := ⟨_, rfl⟩; rw [← hr13]
  simp -implicitDefEqProofs [q_ref11_lay_0, q_ref11_lay_1, q_ref11_lay_2, e32]
  intro g3 hg3
  obtain ⟨Y, hY⟩ : ∃ Y, Y = A.set g3 (.var T_api_Entry [.iarr .u8 32 (ints e.addr), .int .i64 e.slot, .int .i64 e.count]) := ⟨_, rfl⟩
  have hY' : A.set g3 (.var 32 [.iarr .u8 32 (ints e.addr), .int .i64 e.slot, .int .i64 e.count]) = Y := hY.symm
  simp only [hY']
  have hsY : A.Sub Y := by rw [hY]; exact sub_none hg3
  have y3 : Y g3 = some (.var T_api_Entry [.iarr .u8 32 (ints e.addr), .int .i64 e.slot, .int .i64 e.count]) := by rw [hY, set_eq']
  have yg := hsY _ _ hg
  clear hY hY'
  simp -implicitDefEqProofs [hr3, q_ref11_lay_3]
  refine (SlR.nil (e := T_api_Entry) (sz := 34) (Sub_refl Y)).appS (ys := L.map enA) (Sub_refl Y) (fun Q hQ => src_row yg (by simp) Q hQ) (en_sts _) (by simp; omega) fun h n1 C1 hn1 hw1 => ?_
  have hw1 : SlR T_api_Entry 34 (.own h 0 n1) (L.map enA) Y C1 := hw1
  obtain ⟨hYh, hCh, _, hn1'⟩ := hw1.at
  have c3 := hw1.sub _ _ y3
  rw [List.length_map] at hn1'
  have nh3 : ¬ h = g3 := fun e => by rw [e, y3] at hYh; cases hYh
  simp -implicitDefEqProofs [hr4, q_ref11_lay_4, c3, e32]
  intro g7 hg7
  have n37 : ¬ g3 = g7 := fun e => by rw [← e, c3] at hg7; cases hg7
  have nh7 : ¬ h = g7 := fun e => by rw [← e, hCh] at hg7; cases hg7
  obtain ⟨Z, hZ⟩ : ∃ Z, Z = C1.set g7 (.var T_api_Entry [.iarr .u8 32 (ints e.addr), .int .i64 e.slot, .int .i64 e.count]) := ⟨_, rfl⟩
  have hZ' : C1.set g7 (.var 32 [.iarr .u8 32 (ints e.addr), .int .i64 e.slot, .int .i64 e.count]) = Z := hZ.symm
  try simp only [hZ']
  have z3 : Z g3 = some (.var T_api_Entry [.iarr .u8 32 (ints e.addr), .int .i64 e.slot, .int .i64 e.count]) := by rw [hZ, set_ne' n37]; exact c3
  have z7 : Z g7 = some (.var T_api_Entry [.iarr .u8 32 (ints e.addr), .int .i64 e.slot, .int .i64 e.count]) := by rw [hZ, set_eq']
  have zh : Z h = some (.row T_api_Entry 34 (L.map enA)) := by rw [hZ, set_ne' nh7]; exact hCh
  have hsZ : A.Sub Z := by rw [hZ]; exact sub_new (sub_tr hsY hw1.sub) hg7
  clear hZ hZ'
  obtain ⟨q, hq⟩ : ∃ q, q = hmN (n + 1) e.addr := ⟨_, rfl⟩
  have hd := w_ref03_Home e.hb e.h32 (o := (L.length : Int)) (by omega) (by omega)
  have hm := homV_eq (n := n + 1) (by omega) e.addr
  rw [← hq, ← hL] at hm
  rw [hm] at hd
  have habs2 := (hT.absent (x := e)).2 habs
  have hcar := hT.car (r' := r') habs2 (decide_eq_false he) hr hl (show r.length + 1 < n + 1 by omega)
  obtain ⟨c, hcl, hce⟩ := hcar.free
  have hcar' : TS.CarL (tS n) L e q r' := by rw [hq]; exact hcar
  simp -implicitDefEqProofs [hr5, q_ref11_lay_5, z3, e32]
  refine hd.call (.cons (.refl _) rfl (.cons (.refl _) rfl .nil)) rfl ?_
  simp -implicitDefEqProofs
  rw [hr12, hr13]
  refine lay_loop hn (s := (L, e, q)) hpos (sub_noneL hsY hYh) (sub_noneL (sub_tr hsY hw1.sub) hg7) ⟨hcar', hcl, hce, by simp [hL], by simp [hn1'], by simp, by simp, zh, z7, hsZ⟩ fun env' B' L' hT' f6 hB' hs' => ?_
  simp -implicitDefEqProofs [q_ref11_lay_13, f6, outOf]
  have hL' : L'.length = n + 1 := hT'.len
  exact hk _ _ L' hs' hT' (.inr ⟨h, by simp, hB'⟩)
structure PlcI (n : Nat) (r : List En) (v : AV) (A : Heap) (i : Nat) (env : AEnv) (B : Heap) : Prop where
  le : i ≤ r.length
  e0 : env 0 = v
  e6 : env 6 = .int .i64 i
  tb : ∃ L, TS.Tab (tS n) L (r.take i) ∧ EnsAt (env 5) L B
  kp : A.Sub B
theorem w_ref11_Places (hn : n < 2 ^ 36) (hr : (tS n).Rise r) (hpos : ∀ x ∈ r, 0 < x.count) (hroom : r.length < n + 1) (hv : EnsAt v r A)
    (hk : ∀ v' B' L', A.Sub B' → TS.Tab (tS n) L' r → EnsAt v' L' B' → K v' B') : SimX Try.prog F_ref11_Places [v, .int .i64 ((n + 1 : Nat) : Int)] A (outK K Kp) := by
  have hlen : ∀ F : AV → Prop, alen false v F = F (.int .i64 r.length) := fun F => hv.len
  refine j_ref11_Places (by simp) ?_
  unfold a_ref11_Places
  have hbig : ((n + 1 : Nat) : Int) * 48 ≤ 140737488355328 := by omega
  obtain ⟨N, hN⟩ : ∃ N : Nat, N = n + 1 := ⟨_, rfl⟩
  rw [← hN] at hbig ⊢
  simp -implicitDefEqProofs [q_ref11_Places_0, q_ref11_Places_1, q_ref11_Places_2, hbig]
  intro h hh
  refine X_lp (PlcI n r v A) (fun i => r.length - i) 0 ⟨by omega, by simp, by simp, ⟨List.replicate (n + 1) enZ, ?_, .inr ⟨h, by simp [hN], ?_⟩⟩, sub_none hh⟩ ?_
  · rw [List.take_zero]; exact TS.Tab.nil (S := tS n)
  · rw [set_eq', List.map_replicate, enA_Z, hN]
  rintro i env B ⟨hi, e0, e6, ⟨L, hT, hL⟩, kp⟩
  rw [q_ref11_Places_L6]
  obtain ⟨r4, hr4⟩ : ∃ r, r = q_ref11_Places_4 := ⟨_, rfl⟩; rw [← hr4]
  obtain ⟨r5, hr5⟩ : ∃ r, r = q_ref11_Places_5 := ⟨_, rfl⟩; rw [← hr5]
  obtain ⟨r6, hr6⟩ : ∃ r, r = q_ref11_Places_6 := ⟨_, rfl⟩; rw [← hr6]
  simp -implicitDefEqProofs [q_ref11_Places_3, e0, e6, hlen]
  refine ⟨fun hlt => ?_, fun hge => ?_⟩
  · have hii : (i : Int) < r.length := by omega
    have wi : IntKind.i64.wrap ((i : Int) + 1) = (i : Int) + 1 := wrap_i64 (by omega)
    obtain ⟨g, hvg, hg⟩ := hv.pos (by omega)
    have gB := kp _ _ hg
    rw [hvg] at e0
    obtain ⟨x, hx⟩ : ∃ x, x = r[i] := ⟨_, rfl⟩
    have hX : enA r[i] = .agg [.iarr .u8 32 (ints x.addr), .int .i64 x.slot, .int .i64 x.count] := by rw [hx]; rfl
    have x32 := x.h32
    have hxr : x ∈ r := by rw [hx]; exact List.getElem_mem hlt
    have hxp := hpos x hxr
    have htk : r.take (i + 1) = r.take i ++ [x] := by rw [List.take_succ_eq_append_getElem hlt, hx]
    have hsL := hL.scl
    obtain ⟨w, hw⟩ : ∃ w, w = env 5 := ⟨_, rfl⟩
    rw [← hw] at hL hsL
    simp -implicitDefEqProofs [hr4, q_ref11_Places_4, e0, e6, gB, hlt, hii, ← hw]
    rw [hX]
    simp -implicitDefEqProofs [x32, hsL.shp, hsL.good, hsL.comps, hsL.agg]
    refine w_ref11_lay (by omega) (r' := r.take (i + 1)) hT (fun y hy => hpos y (List.mem_of_mem_take hy)) hL x (by omega) (fun y hy hya => ?_) (fun y => by rw [htk]; simp [or_comm]) (by rw [htk]; simp) (by rw [List.length_take]; omega) fun v' B' L' hs hT' hv' => ?_
    · obtain ⟨j, hj, rfl⟩ := List.getElem_of_mem hy
      rw [List.length_take] at hj
      rw [List.getElem_take] at hya
      have := hr.key_inj (show j < r.length by omega) hlt (by rw [← hx]; exact hya)
      omega
    · simp -implicitDefEqProofs [hr5, q_ref11_Places_5, e6, wi]
      exact lp_next (i + 1) ⟨by omega, by simp [e0, hvg], by simp, ⟨L', hT', by simpa using hv'⟩, sub_tr kp hs⟩ (by omega)
  · have hie : i = r.length := by omega
    subst hie
    simp -implicitDefEqProofs [hr6, q_ref11_Places_6, outOf]
    rw [List.take_length] at hT
    exact hk _ _ L kp hT hL
end
end Go.Proofs.Ytilgdnbijkcboaa

/- What the law makes: a table behind acts, and its entries. -/
namespace Go.Proofs.Ytilgdnbijkcboaa
open Go AVL
attribute [-simp] AV.isAgg aappI aapp alen szOK aslc List.reduceReplicate
set_option linter.unusedVariables false
set_option linter.unusedSimpArgs false
set_option maxRecDepth 8000

/-- Entries as they should be. -/
structure Rg (n : Nat) (r : List En) : Prop where
  rise : (tS n).Rise r
  pos : ∀ x ∈ r, 0 < x.count
theorem Rg.nil (n : Nat) : Rg n [] := ⟨List.Pairwise.nil, fun x h => by cases h⟩
theorem putC_pos {n : Nat} {r : List En} {e : En} (h : putC n r e = 0) : rightE e := by
  by_cases hr : rightE e
  · exact hr
  · unfold putC at h; rw [if_pos hr] at h; omega
theorem Rg.put {n : Nat} {r : List En} (h : Rg n r) (e : En) : Rg n (putT n r e) := by
  unfold putT
  split
  · rename_i hc
    refine ⟨TS.rise_putR h.rise, fun x hx => ?_⟩
    rcases (TS.mem_putR h.rise).1 hx with rfl | h2
    · have := (putC_pos hc).1; omega
    · exact h.pos x h2.1
  · exact h
theorem Rg.drop {n : Nat} {r : List En} (h : Rg n r) (a : List Nat) : Rg n (dropT n r a) := by
  unfold dropT
  split
  · exact ⟨TS.rise_dropR h.rise, fun x hx => h.pos x (TS.dropR_sub.subset hx)⟩
  · exact h
/-- A table of rt in memory, and entries rl, apart from it. -/
structure MdS (n t h : Nat) (A : Heap) (rt rl L : List En) (v : AV) (B : Heap) : Prop where
  tb : TbI t h L rt.length B
  en : EnsAt v rl B
  tab : (tS n).Tab L rt
  nh : ∀ m, v ≠ .own h 0 m
  at_ : A t = none
  ah : A h = none
  kp : A.Sub B
section
variable {A B : Heap} {K Kp : AV → Heap → Prop} {n t h : Nat} {rt rl L : List En} {v : AV}
theorem MdS.mono (m : MdS n t h A rt rl L v B) {C : Heap} (hs : B.Sub C) : MdS n t h A rt rl L v C := ⟨m.tb.mono hs, m.en.mono hs, m.tab, m.nh, m.at_, m.ah, sub_tr m.kp hs⟩
theorem MdS.keep (m : MdS n t h A rt rl L v B) {C : Heap} {r' L' : List En} (hk : Keep t h B C) (ht : TbI t h L' r'.length C) (hT : (tS n).Tab L' r') : MdS n t h A r' rl L' v C where
  tb := ht
  en := by
    rcases m.en with h1 | ⟨g, h1, h2⟩
    · exact .inl h1
    · refine .inr ⟨g, h1, hk g _ (fun e => ?_) (fun e => ?_) h2⟩
      · rw [e, m.tb.ct] at h2; cases h2
      · rw [e] at h1; exact m.nh _ h1
  tab := hT
  nh := m.nh
  at_ := m.at_
  ah := m.ah
  kp := fun x c hx => hk x c (fun e => by rw [e, m.at_] at hx; cases hx) (fun e => by rw [e, m.ah] at hx; cases hx) (m.kp x c hx)
theorem MdS.list (m : MdS n t h A rt rl L v B) {C : Heap} {r' : List En} {v' : AV} (hs : B.Sub C) (hv : EnsAt v' r' C) (hf : v' = v ∨ ∀ g m, v' = .own g 0 m → B g = none) : MdS n t h A rt r' L v' C where
  tb := m.tb.mono hs
  en := hv
  tab := m.tab
  nh := fun k => by
    rcases hf with rfl | hf
    · exact m.nh k
    · intro e
      have := hf _ _ e
      rw [m.tb.ch] at this; cases this
  at_ := m.at_
  ah := m.ah
  kp := sub_tr m.kp hs
theorem MdS.refPut (m : MdS n t h A rt rl L v B) (hn : n < 2 ^ 36) (hl : rl.length < 2 ^ 36) (hr : Rg n rl) (e : En) (hk : ∀ v' C, MdS n t h A rt (putT n rl e) L v' C → B.Sub C → K (.tuple [v', .int .i64 (putC n rl e)]) C) :
    SimX Try.prog F_ref11_Put [v, .int .i64 ((n + 1 : Nat) : Int), enA e] B (outK K Kp) :=
  w_ref11_Put (by omega) (by omega) hr.rise m.en e fun v' C hs hv hf => hk v' C (m.list hs hv hf) hs
theorem MdS.tabPut (m : MdS n t h A rt rl L v B) (hn : n < 2 ^ 36) (hr : Rg n rt) (e : En) (hk : ∀ L' C, MdS n t h A (putT n rt e) rl L' v C → Keep t h B C → K (.int .i64 (putC n rt e)) C) :
    SimX Try.prog F_Ptable_Table_Put [.ptr t 0, enA e] B (outK K Kp) :=
  w_table_Put (by omega) m.tab hr.rise hr.pos m.tb e fun L' C hT ht hkp => hk L' C (m.keep hkp ht hT) hkp
theorem MdS.tabDrop (m : MdS n t h A rt rl L v B) (hn : n < 2 ^ 36) (hr : Rg n rt) (x : En) (hk : ∀ L' C, MdS n t h A (dropT n rt x.addr) rl L' v C → Keep t h B C → K (.int .i64 (dropC rt x.addr)) C) :
    SimX Try.prog F_Ptable_Table_Drop [.ptr t 0, .iarr .u8 32 (ints x.addr)] B (outK K Kp) :=
  w_table_Drop (by omega) m.tab hr.rise m.tb x fun L' C hT ht hkp => hk L' C (m.keep hkp ht hT) hkp
end
/-- An act. -/
structure OpP where
  kind : Int
  e : En
def opA (o : OpP) : AV := .agg [.int .i64 o.kind, .iarr .u8 32 (ints o.e.addr), .int .i64 o.e.slot, .int .i64 o.e.count]
def stp (n : Nat) (r : List En) (o : OpP) : List En := if o.kind = 2 then dropT n r o.e.addr else putT n r o.e
def runs (n : Nat) (l : List OpP) : List En := l.foldl (stp n) []
structure MadI (n t h : Nat) (A : Heap) (l : List OpP) (i : Nat) (env : AEnv) (B : Heap) : Prop where
  le : i ≤ l.length
  e0 : env 0 = .int .i64 ((n + 1 : Nat) : Int)
  e1 : env 1 = .dsl 35 (l.map opA)
  e7 : env 7 = .ptr t 0
  e10 : env 10 = .int .i64 i
  md : ∃ L, MdS n t h A (runs n (l.take i)) (runs n (l.take i)) L (env 9) B
section
variable {A B : Heap} {K Kp : AV → Heap → Prop}
end
end Go.Proofs.Ytilgdnbijkcboaa

/- Of: places become a table. -/
namespace Go.Proofs.Ytilgdnbijkcboaa
open Go AVL
attribute [-simp] AV.isAgg aappI aapp alen szOK aslc List.reduceReplicate
set_option linter.unusedVariables false
set_option linter.unusedSimpArgs false
set_option maxRecDepth 8000

/-- The entries of places, one by one put; none: something there is not right. -/
def entS (n : Nat) : List En → List En → Option (List En)
  | [], r => some r
  | e :: l, r => if e.count = 0 then (if e = enZ then entS n l r else none) else if ∃ x ∈ r, x.addr = e.addr then none else if putC n r e = 0 then entS n l ((tS n).putR e r) else none
def OfBad (l : List En) : Prop := ¬ (1 ≤ l.length ∧ l.length ≤ 406) ∨ ∀ n r, l.length = n + 1 → entS n l [] = some r → ∃ L, TS.Tab (tS n) L r ∧ L ≠ l
structure OfI (n t h : Nat) (A : Heap) (l : List En) (i : Nat) (env : AEnv) (B : Heap) : Prop where
  le : i ≤ l.length
  e0 : env 0 = .dsl 34 (l.map enA)
  e4 : env 4 = .ptr t 0
  e20 : env 20 = .dsl 34 (l.map enA)
  e21 : env 21 = .int .i64 l.length
  e22 : env 22 = .int .i64 i
  md : ∃ r L, MdS n t h A r [] L .nilS B ∧ Rg n r ∧ entS n l [] = entS n (l.drop i) r
structure OfJ (t h : Nat) (A : Heap) (l L : List En) (k : Int) (i : Nat) (env : AEnv) (B : Heap) : Prop where
  le : i ≤ l.length
  e4 : env 4 = .ptr t 0
  e47 : env 47 = .dsl 34 (l.map enA)
  e48 : env 48 = .int .i64 l.length
  e49 : env 49 = .int .i64 i
  eq : ∀ j, j < i → L[j]? = l[j]?
  tb : TbI t h L k B
  kp : A.Sub B
theorem getV_of {n : Nat} {L r : List En} (hT : (tS n).Tab L r) (a : List Nat) : (∃ e, e ∈ r ∧ e.addr = a ∧ GetV n L a e true) ∨ ((∀ e ∈ r, e.addr ≠ a) ∧ GetV n L a enZ false) := by
  by_cases h : ∃ e ∈ r, e.addr = a
  · obtain ⟨e, he, hea⟩ := h
    obtain ⟨i, hi, hx, hxe⟩ := (hT.has e).2 he
    exact .inl ⟨e, he, hea, .inl ⟨rfl, i, hi, hx, of_decide_eq_false hxe, hea⟩⟩
  · refine .inr ⟨fun e he hea => h ⟨e, he, hea⟩, .inr ⟨rfl, rfl, fun i hi hc hea => ?_⟩⟩
    exact h ⟨_, hT.mem hi (decide_eq_false hc), hea⟩
theorem eqZ {a : List Nat} (ha : a.length = 32) : eqI 32 (ints a) (List.replicate 32 0) = decide (a = z32) := by
  have := eqA ha (show z32.length = 32 from rfl)
  rwa [show ints z32 = List.replicate 32 0 by simp [ints, z32]] at this
theorem en_eqZ (e : En) : (!decide (e.addr = z32) || (!decide (e.slot = 0) || !decide (e.count = 0))) = !decide (e = enZ) := en_eq e enZ
section
variable {A B : Heap} {K Kp : AV → Heap → Prop}
theorem w_table_Of (l : List En) (hl : l.length < 2 ^ 40) (hk0 : OfBad l → ∀ B, A.Sub B → K (.tuple [.nilP, .bool false]) B)
    (hk1 : ∀ n r t h B, l.length = n + 1 → n < 406 → entS n l [] = some r → TS.Tab (tS n) l r → Rg n r → A t = none → A h = none → TbI t h l r.length B → A.Sub B → K (.tuple [.ptr t 0, .bool true]) B) :
    SimX Try.prog F_table_Of [.dsl 34 (l.map enA)] A (outK K Kp) := by
  refine j_table_Of (by simp) ?_
  unfold a_table_Of
  obtain ⟨r2, hr2⟩ : ∃ r, r = q_table_Of_2 := ⟨_, rfl⟩; rw [← hr2]
  simp -implicitDefEqProofs [q_table_Of_0, q_table_Of_1]
  refine w_table_New (fun hb => ?_) fun h1 h2 t h B ht hh hi hs => ?_
  · simp -implicitDefEqProofs [hr2, q_table_Of_2, q_table_Of_3, outOf]
    exact hk0 (.inl (by omega)) A (Sub_refl A)
  obtain ⟨n, hn⟩ : ∃ n, l.length = n + 1 := ⟨l.length - 1, by omega⟩
  have hm0 : MdS n t h A [] [] (List.replicate (n + 1) enZ) .nilS B := ⟨by have := hi; rw [hn] at this; exact this, .inl ⟨rfl, rfl⟩, TS.Tab.nil (S := tS n), (fun m e => by cases e), ht, hh, hs⟩
  simp -implicitDefEqProofs [hr2, q_table_Of_2, q_table_Of_4]
  refine X_lp (OfI n t h A l) (fun i => l.length - i) 0 ⟨by omega, by simp, by simp, by simp, by simp, by simp, ⟨[], _, hm0, Rg.nil n, by simp⟩⟩ ?_
  rintro i env B ⟨hil, e0, e4, e20, e21, e22, ⟨r, L, hm, hrg, hent⟩⟩
  rw [q_table_Of_L14]
  obtain ⟨r6, hr6⟩ : ∃ r, r = q_table_Of_6 := ⟨_, rfl⟩; rw [← hr6]
  obtain ⟨r14, hr14⟩ : ∃ r, r = q_table_Of_14 := ⟨_, rfl⟩; rw [← hr14]
  simp -implicitDefEqProofs [q_table_Of_5, e21, e22]
  refine ⟨fun hlt => ?_, fun hge => ?_⟩
  · have hii : (i : Int) < l.length := by omega
    have wi : IntKind.i64.wrap ((i : Int) + 1) = (i : Int) + 1 := wrap_i64 (by omega)
    obtain ⟨e, he⟩ : ∃ e, e = l[i] := ⟨_, rfl⟩
    have hE : enA l[i] = .agg [.iarr .u8 32 (ints e.addr), .int .i64 e.slot, .int .i64 e.count] := by rw [he]; rfl
    have e32 := e.h32
    rw [List.drop_eq_getElem_cons hlt, ← he] at hent
    have hstep : entS n (e :: l.drop (i + 1)) r = if e.count = 0 then (if e = enZ then entS n (l.drop (i + 1)) r else none) else if ∃ x ∈ r, x.addr = e.addr then none else if putC n r e = 0 then entS n (l.drop (i + 1)) ((tS n).putR e r) else none := rfl
    rw [hstep] at hent
    have bad : entS n l [] = none → ∀ C, A.Sub C → K (.tuple [.nilP, .bool false]) C := fun hno => hk0 (.inr fun n' r' hn' hr' => by
      have : n' = n := by omega
      subst this; rw [hno] at hr'; cases hr')
    obtain ⟨r7, hr7⟩ : ∃ r, r = q_table_Of_7 := ⟨_, rfl⟩; rw [← hr7]
    obtain ⟨r13, hr13⟩ : ∃ r, r = q_table_Of_13 := ⟨_, rfl⟩; rw [← hr13]
    simp -implicitDefEqProofs [hr6, q_table_Of_6, e20, e22, hlt, hii]
    rw [hE]
    simp -implicitDefEqProofs
    intro g7 hg7
    obtain ⟨Y, hY⟩ : ∃ Y, Y = B.set g7 (.var T_api_Entry [.iarr .u8 32 (ints e.addr), .int .i64 e.slot, .int .i64 e.count]) := ⟨_, rfl⟩
    have hY' : B.set g7 (.var 32 [.iarr .u8 32 (ints e.addr), .int .i64 e.slot, .int .i64 e.count]) = Y := hY.symm
    try simp only [hY']
    try simp only [← hY]
    have hsY : B.Sub Y := by rw [hY]; exact sub_none hg7
    have y7 : Y g7 = some (.var T_api_Entry [.iarr .u8 32 (ints e.addr), .int .i64 e.slot, .int .i64 e.count]) := by rw [hY, set_eq']
    have hmY := hm.mono hsY
    clear hY hY'
    by_cases hc : e.count = 0
    · rw [if_pos hc] at hent
      obtain ⟨r8, hr8⟩ : ∃ r, r = q_table_Of_8 := ⟨_, rfl⟩; rw [← hr8]
      simp -implicitDefEqProofs [hr7, q_table_Of_7, y7, e32, hc]
      simp -implicitDefEqProofs [hr8, q_table_Of_8, y7, e32, eqZ e32]
      rw [en_eqZ]
      by_cases hz : e = enZ
      · rw [decide_eq_true hz]
        rw [if_pos hz] at hent
        simp -implicitDefEqProofs [hr13, q_table_Of_13, e22, wi]
        exact lp_next (i + 1) ⟨by omega, by simp [e0], by simp [e4], by simp [e20], by simp [e21], by simp, ⟨r, L, hmY, hrg, hent⟩⟩ (by omega)
      · rw [decide_eq_false hz]
        rw [if_neg hz] at hent
        simp -implicitDefEqProofs [q_table_Of_9, outOf]
        exact bad hent Y hmY.kp
    · rw [if_neg hc] at hent
      obtain ⟨r10, hr10⟩ : ∃ r, r = q_table_Of_10 := ⟨_, rfl⟩; rw [← hr10]
      obtain ⟨r11, hr11⟩ : ∃ r, r = q_table_Of_11 := ⟨_, rfl⟩; rw [← hr11]
      simp -implicitDefEqProofs [hr7, q_table_Of_7, y7, e32, hc]
      simp -implicitDefEqProofs [hr10, q_table_Of_10, e4, y7, e32]
      have hEe : (.agg [.iarr .u8 32 (ints e.addr), .int .i64 e.slot, .int .i64 e.count] : AV) = enA e := rfl
      rcases getV_of hm.tab e.addr with ⟨x, hx, hxa, hgv⟩ | ⟨hno, hgv⟩
      · refine (w_table_Get (k := (r.length : Int)) hm.tab (by omega) e hgv).call (.cons hmY.tb.vw rfl (.cons (.refl _) rfl .nil)) rfl ?_
        rw [if_pos ⟨x, hx, hxa⟩] at hent
        have x32 := x.h32
        have hX : enA x = .agg [.iarr .u8 32 (ints x.addr), .int .i64 x.slot, .int .i64 x.count] := rfl
        simp -implicitDefEqProofs [hX, x32]
        intro g8 hg8
        simp -implicitDefEqProofs [hr11, q_table_Of_11, q_table_Of_12, outOf]
        exact bad hent _ (sub_new hmY.kp hg8)
      · refine (w_table_Get (k := (r.length : Int)) hm.tab (by omega) e hgv).call (.cons hmY.tb.vw rfl (.cons (.refl _) rfl .nil)) rfl ?_
        rw [if_neg (fun ⟨x, hx, hxa⟩ => hno x hx hxa)] at hent
        have hX : enA enZ = .agg [.iarr .u8 32 (ints enZ.addr), .int .i64 enZ.slot, .int .i64 enZ.count] := rfl
        have z32' := enZ.h32
        simp -implicitDefEqProofs [hX, z32']
        intro g8 hg8
        have n87 : ¬ g7 = g8 := fun e => by rw [← e, y7] at hg8; cases hg8
        obtain ⟨Z, hZ⟩ : ∃ Z, Z = Y.set g8 (.var T_api_Entry [.iarr .u8 32 (ints enZ.addr), .int .i64 enZ.slot, .int .i64 enZ.count]) := ⟨_, rfl⟩
        have hZ' : Y.set g8 (.var 32 [.iarr .u8 32 (ints enZ.addr), .int .i64 enZ.slot, .int .i64 enZ.count]) = Z := hZ.symm
        try simp only [hZ']
        try simp only [← hZ]
        have hmZ : MdS n t h A r [] L .nilS Z := by rw [hZ]; exact hmY.mono (sub_none hg8)
        have z7 : Z g7 = some (.var T_api_Entry [.iarr .u8 32 (ints e.addr), .int .i64 e.slot, .int .i64 e.count]) := by rw [hZ, set_ne' n87]; exact y7
        clear hZ hZ'
        simp -implicitDefEqProofs [hr11, q_table_Of_11, e4, z7, e32]
        rw [hEe]
        refine hmZ.tabPut (by omega) hrg e fun L' C m2 hkp => ?_
        by_cases hp : putC n r e = 0
        · rw [if_pos hp] at hent
          have hpt : putT n r e = (tS n).putR e r := if_pos hp
          have hrg' := hrg.put e
          rw [hpt] at m2 hrg'
          simp -implicitDefEqProofs [hp, hr13, q_table_Of_13, e22, wi]
          exact lp_next (i + 1) ⟨by omega, by simp [e0], by simp [e4], by simp [e20], by simp [e21], by simp, ⟨_, L', m2, hrg', hent⟩⟩ (by omega)
        · rw [if_neg hp] at hent
          simp -implicitDefEqProofs [hp, q_table_Of_12, outOf]
          exact bad hent _ m2.kp
  · have hie : i = l.length := by omega
    subst hie
    rw [List.drop_length] at hent
    have hent' : entS n l [] = some r := hent
    simp -implicitDefEqProofs [hr14, q_table_Of_14, e0]
    refine X_lp (OfJ t h A l L r.length) (fun i => l.length - i) 0 ⟨by omega, by simp [e4], by simp, by simp, by simp, fun j hj => by omega, hm.tb, hm.kp⟩ ?_
    rintro i env B ⟨hil, e4, e47, e48, e49, heq, htb, kp⟩
    have hLl : L.length = n + 1 := hm.tab.len
    rw [q_table_Of_L20]
    obtain ⟨r16, hr16⟩ : ∃ r, r = q_table_Of_16 := ⟨_, rfl⟩; rw [← hr16]
    obtain ⟨r20, hr20⟩ : ∃ r, r = q_table_Of_20 := ⟨_, rfl⟩; rw [← hr20]
    simp -implicitDefEqProofs [q_table_Of_15, e48, e49]
    refine ⟨fun hlt => ?_, fun hge => ?_⟩
    · have hii : (i : Int) < l.length := by omega
      have wi : IntKind.i64.wrap ((i : Int) + 1) = (i : Int) + 1 := wrap_i64 (by omega)
      have hlL : i < L.length := by omega
      have hiL : (i : Int) < L.length := by omega
      obtain ⟨e, he⟩ : ∃ e, e = l[i] := ⟨_, rfl⟩
      have hE : enA l[i] = .agg [.iarr .u8 32 (ints e.addr), .int .i64 e.slot, .int .i64 e.count] := by rw [he]; rfl
      have e32 := e.h32
      obtain ⟨f, hf⟩ : ∃ f, f = L[i] := ⟨_, rfl⟩
      have hF : enA L[i] = .agg [.iarr .u8 32 (ints f.addr), .int .i64 f.slot, .int .i64 f.count] := by rw [hf]; rfl
      have f32 := f.h32
      have ct := htb.ct
      have ch := htb.ch
      obtain ⟨r17, hr17⟩ : ∃ r, r = q_table_Of_17 := ⟨_, rfl⟩; rw [← hr17]
      obtain ⟨r19, hr19⟩ : ∃ r, r = q_table_Of_19 := ⟨_, rfl⟩; rw [← hr19]
      simp -implicitDefEqProofs [hr16, q_table_Of_16, e47, e49, hlt, hii]
      rw [hE]
      simp -implicitDefEqProofs
      intro g11 hg11
      have hsY := sub_none (A := B) (c := .var 32 [.iarr .u8 32 (ints e.addr), .int .i64 e.slot, .int .i64 e.count]) hg11
      obtain ⟨Y, hY⟩ : ∃ Y, Y = B.set g11 (.var 32 [.iarr .u8 32 (ints e.addr), .int .i64 e.slot, .int .i64 e.count]) := ⟨_, rfl⟩
      try simp only [← hY]
      rw [← hY] at hsY
      have y11 : Y g11 = some (.var 32 [.iarr .u8 32 (ints e.addr), .int .i64 e.slot, .int .i64 e.count]) := by rw [hY, set_eq']
      clear hY
      have htY := htb.mono hsY
      have ct := htY.ct
      have ch := htY.ch
      simp -implicitDefEqProofs [hr17, q_table_Of_17, e4, ct, ch, y11, hlL, hiL, hF, e32, f32, eqA f32 e32]
      rw [en_eq]
      by_cases hfe : f = e
      · rw [decide_eq_true hfe]
        simp -implicitDefEqProofs [hr19, q_table_Of_19, e49, wi]
        refine lp_next (i + 1) ⟨by omega, by simp [e4], by simp [e47], by simp [e48], by simp, fun j hj => ?_, htY, sub_tr kp hsY⟩ (by omega)
        rcases Nat.lt_succ_iff_lt_or_eq.1 hj with h | rfl
        · exact heq j h
        · rw [List.getElem?_eq_getElem hlt, List.getElem?_eq_getElem hlL, ← he, ← hf, hfe]
      · rw [decide_eq_false hfe]
        simp -implicitDefEqProofs [q_table_Of_18, outOf]
        refine hk0 (.inr fun n' r' hn' hr' => ?_) Y (sub_tr kp hsY)
        have : n' = n := by omega
        subst this
        rw [hent'] at hr'
        injection hr' with hr'
        subst hr'
        refine ⟨L, hm.tab, fun e => hfe ?_⟩
        subst e
        rw [hf, he]
    · have hLe : L = l := List.ext_getElem? fun j => by
        by_cases hj : j < i
        · exact heq j hj
        · rw [List.getElem?_eq_none (by omega), List.getElem?_eq_none (by omega)]
      subst hLe
      simp -implicitDefEqProofs [hr20, q_table_Of_20, e4, outOf]
      exact hk1 n r t h B hn (by omega) hent' hm.tab hrg ht hh htb kp
end
end Go.Proofs.Ytilgdnbijkcboaa

/- The chapter's Entries. -/
namespace Go.Proofs.Ytilgdnbijkcboaa
open Go AVL
attribute [-simp] AV.isAgg aappI aapp alen szOK aslc List.reduceReplicate
set_option linter.unusedVariables false
set_option linter.unusedSimpArgs false
set_option maxRecDepth 8000

theorem en_eqZ' (e : En) : (decide (e.addr = z32) && (decide (e.slot = 0) && decide (e.count = 0))) = decide (e = enZ) := by
  have := en_eqZ e
  rw [← Bool.not_and, ← Bool.not_and] at this
  simpa using congrArg (! ·) this
structure EtI (n : Nat) (A : Heap) (l : List En) (i : Nat) (env : AEnv) (B : Heap) : Prop where
  le : i ≤ l.length
  e0 : env 0 = .dsl 34 (l.map enA)
  e5 : env 5 = .int .i64 i
  kp : A.Sub B
  md : ∃ r, EnsAt (env 4) r B ∧ Rg n r ∧ r.length ≤ i ∧ entS n l [] = entS n (l.drop i) r
theorem fiV_ge {n : Nat} {r : List En} (hr : (tS n).Rise r) (a : List Nat) : 0 ≤ fiV r a ↔ ∃ x ∈ r, x.addr = a := by
  have hf := fiV_lt r a
  constructor
  · intro h
    obtain ⟨hj, hk⟩ := fiV_key (r := r) (a := a) (j := (fiV r a).toNat) (by omega)
    exact ⟨_, List.getElem_mem hj, hk⟩
  · rintro ⟨x, hx, hxa⟩
    obtain ⟨i, hi, rfl⟩ := List.getElem_of_mem hx
    rw [fiV_at hr hi hxa]; omega
section
variable {A B : Heap} {K Kp : AV → Heap → Prop}
theorem w_ref11_Entries {n : Nat} (hn36 : n < 2 ^ 36) (l : List En) (hn : l.length = n + 1) (hk0 : entS n l [] = none → ∀ B, A.Sub B → K (.tuple [.nilS, .bool false]) B)
    (hk1 : ∀ r v B, entS n l [] = some r → Rg n r → EnsAt v r B → A.Sub B → K (.tuple [v, .bool true]) B) : SimX Try.prog F_ref11_Entries [.dsl 34 (l.map enA)] A (outK K Kp) := by
  refine j_ref11_Entries (by simp) ?_
  unfold a_ref11_Entries
  simp -implicitDefEqProofs [q_ref11_Entries_0, q_ref11_Entries_1, q_ref11_Entries_2]
  refine X_lp (EtI n A l) (fun i => l.length - i) 0 ⟨by omega, by simp, by simp, Sub_refl A, ⟨[], .inl ⟨by simp, rfl⟩, Rg.nil n, by simp, by simp⟩⟩ ?_
  rintro i env B ⟨hil, e0, e5, kp, ⟨r, hv, hrg, hrl, hent⟩⟩
  rw [q_ref11_Entries_L14]
  obtain ⟨r4, hr4⟩ : ∃ r, r = q_ref11_Entries_4 := ⟨_, rfl⟩; rw [← hr4]
  obtain ⟨r14, hr14⟩ : ∃ r, r = q_ref11_Entries_14 := ⟨_, rfl⟩; rw [← hr14]
  simp -implicitDefEqProofs [q_ref11_Entries_3, e0, e5]
  refine ⟨fun hlt => ?_, fun hge => ?_⟩
  · have hii : (i : Int) < l.length := by omega
    have wi : IntKind.i64.wrap ((i : Int) + 1) = (i : Int) + 1 := wrap_i64 (by omega)
    obtain ⟨e, he⟩ : ∃ e, e = l[i] := ⟨_, rfl⟩
    have hE : enA l[i] = .agg [.iarr .u8 32 (ints e.addr), .int .i64 e.slot, .int .i64 e.count] := by rw [he]; rfl
    have e32 := e.h32
    rw [List.drop_eq_getElem_cons hlt, ← he] at hent
    have hstep : entS n (e :: l.drop (i + 1)) r = if e.count = 0 then (if e = enZ then entS n (l.drop (i + 1)) r else none) else if ∃ x ∈ r, x.addr = e.addr then none else if putC n r e = 0 then entS n (l.drop (i + 1)) ((tS n).putR e r) else none := rfl
    rw [hstep] at hent
    obtain ⟨w, hw⟩ : ∃ w, w = env 4 := ⟨_, rfl⟩
    rw [← hw] at hv
    have hs := hv.scl
    obtain ⟨r5, hr5⟩ : ∃ r, r = q_ref11_Entries_5 := ⟨_, rfl⟩; rw [← hr5]
    obtain ⟨r7, hr7⟩ : ∃ r, r = q_ref11_Entries_7 := ⟨_, rfl⟩; rw [← hr7]
    obtain ⟨r13, hr13⟩ : ∃ r, r = q_ref11_Entries_13 := ⟨_, rfl⟩; rw [← hr13]
    simp -implicitDefEqProofs [hr4, q_ref11_Entries_4, e0, e5, hlt, hii]
    rw [hE]
    simp -implicitDefEqProofs
    refine ⟨fun hc => ?_, fun hc => ?_⟩
    · rw [if_pos hc] at hent
      simp -implicitDefEqProofs [hr5, q_ref11_Entries_5, e0, e5, hlt, hii]
      rw [hE]
      simp -implicitDefEqProofs [eqZ e32]
      rw [en_eqZ']
      by_cases hz : e = enZ
      · rw [decide_eq_true hz]
        rw [if_pos hz] at hent
        simp -implicitDefEqProofs [hr13, q_ref11_Entries_13, e5, wi]
        exact lp_next (i + 1) ⟨by omega, by simp [e0], by simp, kp, ⟨r, by simpa [← hw] using hv, hrg, by omega, hent⟩⟩ (by omega)
      · rw [decide_eq_false hz]
        rw [if_neg hz] at hent
        simp -implicitDefEqProofs [q_ref11_Entries_6, outOf]
        exact hk0 hent B kp
    · rw [if_neg hc] at hent
      obtain ⟨r9, hr9⟩ : ∃ r, r = q_ref11_Entries_9 := ⟨_, rfl⟩; rw [← hr9]
      simp -implicitDefEqProofs [hr7, q_ref11_Entries_7, e0, e5, ← hw, hlt, hii]
      rw [hE]
      simp -implicitDefEqProofs [e32, hs.shp, hs.good, hs.comps, hs.agg]
      refine (w_ref11_Find r e32 (by omega)).call (.cons (rowAt_vw hv) hs.agg (.cons (.refl _) rfl .nil)) rfl ?_
      have hge := fiV_ge hrg.rise e.addr
      by_cases hex : ∃ x ∈ r, x.addr = e.addr
      · rw [if_pos hex] at hent
        have hge' : 0 ≤ fiV r e.addr := hge.2 hex
        simp -implicitDefEqProofs [hge', q_ref11_Entries_8, outOf]
        exact hk0 hent B kp
      · rw [if_neg hex] at hent
        have hge' : ¬ 0 ≤ fiV r e.addr := fun h => hex (hge.1 h)
        have hEe : (.agg [.iarr .u8 32 (ints e.addr), .int .i64 e.slot, .int .i64 e.count] : AV) = enA e := rfl
        obtain ⟨r10, hr10⟩ : ∃ r, r = q_ref11_Entries_10 := ⟨_, rfl⟩; rw [← hr10]
        obtain ⟨r12, hr12⟩ : ∃ r, r = q_ref11_Entries_12 := ⟨_, rfl⟩; rw [← hr12]
        simp -implicitDefEqProofs [hge']
        simp -implicitDefEqProofs [hr9, q_ref11_Entries_9, e0, e5, ← hw, hlt, hii]
        rw [hE]
        simp -implicitDefEqProofs [e32, hs.shp, hs.good, hs.comps, hs.agg]
        rw [hEe, hn]
        refine w_ref11_Put (by omega) (by omega) hrg.rise hv e fun v' C hsC hv' _ => ?_
        have hs' := hv'.scl
        simp -implicitDefEqProofs [hs'.shp, hs'.good, hs'.comps, hs'.agg]
        by_cases hp : putC n r e = 0
        · rw [if_pos hp] at hent
          have hpt : putT n r e = (tS n).putR e r := if_pos hp
          have hrg' := hrg.put e
          rw [hpt] at hv' hrg'
          have hln : ((tS n).putR e r).length = r.length + 1 := by rw [TS.len_putR hrg.rise]; exact if_neg hex
          simp -implicitDefEqProofs [hr10, q_ref11_Entries_10, hp]
          simp -implicitDefEqProofs [hr12, q_ref11_Entries_12, hr13, q_ref11_Entries_13, e5, wi]
          exact lp_next (i + 1) ⟨by omega, by simp [e0], by simp, sub_tr kp hsC, ⟨_, by simpa using hv', hrg', by omega, hent⟩⟩ (by omega)
        · rw [if_neg hp] at hent
          simp -implicitDefEqProofs [hr10, q_ref11_Entries_10, hp, q_ref11_Entries_11, outOf]
          exact hk0 hent C (sub_tr kp hsC)
  · have hie : i = l.length := by omega
    subst hie
    rw [List.drop_length] at hent
    simp -implicitDefEqProofs [hr14, q_ref11_Entries_14, outOf]
    exact hk1 r _ B hent hrg hv kp
end
end Go.Proofs.Ytilgdnbijkcboaa

/- The play's own table, plainly. -/
namespace Go.Proofs.Ytilgdnbijkcboaa
open Go AVL
set_option linter.unusedVariables false
set_option linter.unusedSimpArgs false
set_option maxRecDepth 8000

section
variable {α κ : Type} (S : TS α κ)
instance (x y : α) (p : Nat) : Decidable (S.beats x y p) := by unfold TS.beats; exact inferInstance
instance (f : Nat → α) (x : α) (d : Nat) : Decidable (S.passed f x d) := by unfold TS.passed; exact inferInstance
instance (f : Nat → α) : Decidable (S.OK f) := by unfold TS.OK; exact inferInstance
end
/-- A table, checked. -/
theorem tab_of {n : Nat} {L r : List En} (h1 : L.length = n + 1) (h2 : (tS n).OK ((tS n).fn L)) (h3 : ∀ i, i < n + 1 → ∀ j, j < n + 1 → (tS n).emp ((tS n).fn L i) = false → (tS n).emp ((tS n).fn L j) = false → ((tS n).fn L i).addr = ((tS n).fn L j).addr → i = j) (h4 : ∀ i, i < n + 1 → (tS n).emp ((tS n).fn L i) = true → (tS n).fn L i = enZ)
    (h5 : ∀ i, i < n + 1 → (tS n).emp ((tS n).fn L i) = false → (tS n).fn L i ∈ r) (h6 : ∀ x ∈ r, ∃ i, i < n + 1 ∧ (tS n).fn L i = x ∧ (tS n).emp x = false) (h7 : (tS n).cnt L = r.length) (h8 : r.length < n + 1) : (tS n).Tab L r where
  len := h1
  ok := h2
  dist := fun i j hi hj => h3 i hi j hj
  zero := h4
  has := fun x => ⟨fun ⟨i, hi, hx, hxe⟩ => by subst hx; exact h5 i hi hxe, fun hx => h6 x hx⟩
  cn := h7
  room := h8
def at7 (a b : Nat) : List Nat := [0, 0, 0, 0, 0, a, b] ++ List.replicate 25 0
def eA : En := ⟨at7 5 2, 1, 1, by unfold byts; decide, rfl, by decide, by decide, by decide, by decide⟩
def eB : En := ⟨at7 5 1, 2, 3, by unfold byts; decide, rfl, by decide, by decide, by decide, by decide⟩
def eC : En := ⟨at7 6 0, 3, 1, by unfold byts; decide, rfl, by decide, by decide, by decide, by decide⟩
def P3 : List En := [eC, enZ, enZ, enZ, enZ, eB, eA]
def P4 : List En := [enZ, enZ, enZ, enZ, enZ, eA, eC]
theorem p1 : putT 6 [] eA = [eA] ∧ putC 6 [] eA = 0 := by decide +kernel
theorem p2 : putT 6 [eA] eB = [eB, eA] ∧ putC 6 [eA] eB = 0 := by decide +kernel
theorem p3 : putT 6 [eB, eA] eC = [eB, eA, eC] ∧ putC 6 [eB, eA] eC = 0 := by decide +kernel
theorem d1 : dropT 6 [eB, eA, eC] eB.addr = [eA, eC] ∧ dropC [eB, eA, eC] eB.addr = 0 := by decide +kernel
theorem d2 : dropT 6 [eA, eC] eB.addr = [eA, eC] ∧ dropC [eA, eC] eB.addr = 8 := by decide +kernel
end Go.Proofs.Ytilgdnbijkcboaa

/- The walk of shelf.Put. -/
namespace Go.Proofs.Ytilgdnbijkcboaa
open Go AVL
attribute [-simp] AV.isAgg aappI aapp alen szOK aslc List.reduceReplicate
attribute [simp] shp good comps
set_option linter.unusedVariables false
set_option linter.unusedSimpArgs false
set_option maxRecDepth 8000

def scV (x : List Nat) : AV := .iarr .u8 256 (ints x)
def scA (X : List (List Nat)) : List AV := X.map scV
@[simp] theorem scA_len (X : List (List Nat)) : (scA X).length = X.length := by simp [scA]
theorem scA_snoc (X : List (List Nat)) (x : List Nat) : scA (X ++ [x]) = scA X ++ [scV x] := by simp [scA]
theorem scA_noFs : ∀ X : List (List Nat), AV.noFs (scA X) = true
  | [] => rfl
  | x :: X => by
    have := scA_noFs X
    simp only [scA] at this
    simp only [scA, List.map_cons, AV.noFs, this, Bool.and_true]; rfl
theorem ens_vws {B : Heap} : ∀ (l : List En), Vws B (l.map enA) (l.map enA)
  | [] => .nil
  | e :: l => .cons (.refl _) (ens_vws l)
theorem en_part {B : Heap} {g i n : Nat} {L : List En} (h : B g = some (.row T_api_Entry 34 (L.map enA))) (hin : i + n ≤ L.length) : Vw B (.own g i n) (.dsl 34 (((L.drop i).take n).map enA)) := by
  refine Vw.ownR h (by simpa using hin) ?_
  rw [← List.map_drop, ← List.map_take]
  exact ens_vws _
section
variable {A : Heap} {K Kp : AV → Heap → Prop} {t h : Nat} {L : List En} {k : Int}
structure SpI (gl m : Nat) (L : List En) (Y : Heap) (j : Nat) (env : AEnv) (B : Heap) : Prop where
  le : j ≤ m
  e5 : env 5 = .own gl (6 * j) (L.length - 6 * j)
  w : SlR T_256_uint8 256 (env 4) (scA ((secsE L).take j)) Y B
theorem w_shelf_Put {m : Nat} (hi : TbI t h L k A) (hl : L.length = 6 * m) (hm : 0 < m) (hm2 : m < 2 ^ 30) (hp : ∀ e ∈ L, 0 ≤ e.count ∧ 0 ≤ e.slot) (hk : ∀ u C, SlR T_256_uint8 256 u (scA (secsE L)) A C → K (.tuple [u, .int .i64 0]) C) : SimX Try.prog F_shelf_Put [.ptr t 0] A (outK K Kp) := by
  refine j_shelf_Put (by simp) ?_
  unfold a_shelf_Put
  have hm6 : ((6 * m : Nat) : Int).tmod 6 = 0 := by
    have h1 : ((6 * m : Nat) : Int).tmod 6 = ((6 * m % 6 : Nat) : Int) := rfl
    have : 6 * m % 6 = 0 := by omega
    rw [h1, this]; rfl
  have hsz := w_table_Size L k
  rw [hl] at hsz
  obtain ⟨q, hq⟩ : ∃ q, q = 6 * m := ⟨_, rfl⟩
  rw [← hq] at hm6 hsz
  simp -implicitDefEqProofs [q_shelf_Put_0, q_shelf_Put_1]
  refine hsz.call (.cons hi.vw rfl .nil) rfl ?_
  simp -implicitDefEqProofs [hm6]
  simp -implicitDefEqProofs [q_shelf_Put_3, q_shelf_Put_4]
  refine (w_table_Places L k (by omega)).call (.cons hi.vw rfl .nil) (en_noFs L) fun v Y hv => ?_
  obtain ⟨gl, hgl, gA, gY⟩ := hv.pos (by simp; omega)
  rw [List.length_map] at hgl
  subst hgl
  simp -implicitDefEqProofs
  refine X_lp (SpI gl m L Y) (fun j => m - j) 0 ⟨by omega, by simp, by simpa [scA] using SlR.nil (Sub_refl Y)⟩ ?_
  rintro j env B ⟨lej, e5, hw⟩
  have gB := hw.sub _ _ gY
  have hs := hw.scl
  rw [q_shelf_Put_L8]
  obtain ⟨r6, hr6⟩ : ∃ r, r = q_shelf_Put_6 := ⟨_, rfl⟩; rw [← hr6]
  obtain ⟨r7, hr7⟩ : ∃ r, r = q_shelf_Put_7 := ⟨_, rfl⟩; rw [← hr7]
  obtain ⟨n, hn⟩ : ∃ n, n = L.length - 6 * j := ⟨_, rfl⟩
  rw [← hn] at e5
  by_cases hj : j < m
  · have hn0 : (0 : Int) < n := by omega
    have hn0' : 0 < n := by omega
    have hn6 : (6 : Int) ≤ n := by omega
    have hpart := en_part (i := 6 * j) (n := 6) gB (by omega)
    have h6 : ((L.drop (6 * j)).take 6).length = 6 := by simp; omega
    have hsec := w_shelf_sector ((L.drop (6 * j)).take 6) h6 fun e he => hp e (List.mem_of_mem_drop (List.mem_of_mem_take he))
    have hjl : j < (secsE L).length := by rw [secsE_len]; omega
    have hget : (secsE L)[j] = secE ((L.drop (6 * j)).take 6) := by simp [secsE]
    have htk : (secsE L).take (j + 1) = (secsE L).take j ++ [secE ((L.drop (6 * j)).take 6)] := by rw [List.take_succ_eq_append_getElem hjl, hget]
    obtain ⟨x, hx⟩ : ∃ x, x = secE ((L.drop (6 * j)).take 6) := ⟨_, rfl⟩
    have hxl : x.length = 256 := by rw [hx]; exact (secE_sec _).1
    rw [← hx] at hsec htk
    simp -implicitDefEqProofs [q_shelf_Put_5, e5, hn0, hn0']
    simp -implicitDefEqProofs [hr6, q_shelf_Put_6, e5, szOK, aslc, gB, hn6, hs.shp, hs.good, hs.comps, hs.agg]
    refine hsec.call (.cons hpart rfl .nil) rfl ?_
    simp -implicitDefEqProofs [hxl]
    intro g25 hg25
    have hap := fun K hk => hw.app (K := K) (bytes := 256) (ys := [scV x]) (g1 := g25) (C := B.set g25 (.row T_256_uint8 256 [scV x])) set_eq' rfl (sub_none hg25) hg25 (by simp; omega) hk
    refine hap _ fun v' C' h1 h2 => ?_
    simp -implicitDefEqProofs [h2]
    have gC := h1.sub _ _ gY
    simp -implicitDefEqProofs [hr7, q_shelf_Put_7, e5, szOK, aslc, gC, hn6]
    refine lp_next (j + 1) ⟨by omega, ?_, ?_⟩ (by omega)
    · have e1 : 6 * (j + 1) = 6 * j + 6 := by omega
      have e2 : L.length - (6 * j + 6) = n - 6 := by omega
      rw [e1, e2]
      simp
    · rw [htk, scA_snoc]
      simpa using h1
  · have hj : j = m := by omega
    subst hj
    have hn0 : n = 0 := by omega
    have htk : (secsE L).take j = secsE L := List.take_of_length_le (by rw [secsE_len]; omega)
    rw [htk] at hw
    simp -implicitDefEqProofs [q_shelf_Put_5, e5, hn0]
    simp -implicitDefEqProofs [q_shelf_Put_8, hs.shp, hs.good, hs.comps, hs.agg, outOf]
    exact hk _ _ (hw.base hv.sub)
theorem w_shelf_Put_bad (hi : TbI t h L k A) (hb : L.length % 6 ≠ 0) (hk : K (.tuple [.nilS, .int .i64 1]) A) : SimX Try.prog F_shelf_Put [.ptr t 0] A (outK K Kp) := by
  refine j_shelf_Put (by simp) ?_
  unfold a_shelf_Put
  have hm6 : ¬ (L.length : Int).tmod 6 = 0 := by
    have h1 : (L.length : Int).tmod 6 = ((L.length % 6 : Nat) : Int) := rfl
    rw [h1]; omega
  have hsz := w_table_Size L k
  obtain ⟨q, hq⟩ : ∃ q, q = L.length := ⟨_, rfl⟩
  rw [← hq] at hm6 hsz
  simp -implicitDefEqProofs [q_shelf_Put_0, q_shelf_Put_1]
  refine hsz.call (.cons hi.vw rfl .nil) rfl ?_
  simp -implicitDefEqProofs [hm6]
  simp -implicitDefEqProofs [q_shelf_Put_2, outOf]
  exact hk
end
end Go.Proofs.Ytilgdnbijkcboaa
