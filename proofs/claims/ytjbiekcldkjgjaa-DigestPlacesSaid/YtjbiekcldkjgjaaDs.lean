/- The walks of Less and of the digits of sixteen. -/
import Derived.Test.YtjbiekcldkjgjaaDr
import Derived.Test.YtjbiekcldkjgjaaVst
namespace Go.Proofs.Ytjbiekcldkjgjaa
open Go AVL
attribute [-simp] AV.isAgg aappI aapp alen
set_option linter.unusedVariables false
set_option linter.unusedSimpArgs false
set_option maxRecDepth 8000

theorem lessL_lt : ∀ (a b : List Nat), lessL a b = decide (a < b)
  | [], [] => rfl
  | [], _ :: _ => by simp [lessL]
  | _ :: _, [] => by simp [lessL]
  | a :: r, b :: s => by
    simp only [lessL, lessL_lt r s, List.cons_lt_cons_iff]
    by_cases h : a = b
    · subst h; simp
    · simp [h]
theorem lessL_drop {a b : List Nat} {i : Nat} (ha : i < a.length) (hb : i < b.length) : lessL (a.drop i) (b.drop i) = if a[i] = b[i] then lessL (a.drop (i + 1)) (b.drop (i + 1)) else decide (a[i] < b[i]) := by
  rw [List.drop_eq_getElem_cons ha, List.drop_eq_getElem_cons hb, lessL]
theorem w_digest_Less {a b : List Nat} (ha : a.length = 32) (hb : b.length = 32) : Gives Try.prog F_digest_Less [.iarr .u8 32 (ints a), .iarr .u8 32 (ints b)] (.bool (lessL a b)) := by
  refine v_digest_Less (by simp) ?_
  simp -implicitDefEqProofs [a_digest_Less, q_digest_Less_0, q_digest_Less_1, ha, hb]
  intro g2 g3 n1 n2
  refine X_lp (fun (i : Nat) env B => i ≤ 32 ∧ env 2 = .ptr g2 0 ∧ env 3 = .ptr g3 0 ∧ env 6 = .int .i64 i ∧ lessL a b = lessL (a.drop i) (b.drop i) ∧ B g2 = some (.var 39 [.iarr .u8 32 (ints a)]) ∧ B g3 = some (.var 39 [.iarr .u8 32 (ints b)])) (fun i => 32 - i) 0
    ⟨by omega, by simp, by simp, by simp, rfl, by simp [n1, n2], by simp⟩ ?_
  rintro i env B ⟨hi, e2, e3, e6, hl, f2, f3⟩
  by_cases hi32 : i < 32
  · have c32 : (i : Int) < 32 := by omega
    have wi : IntKind.i64.wrap ((i : Int) + 1) = (i : Int) + 1 := wrap_i64 (by omega)
    have hia : i < a.length := by omega
    have hib : i < b.length := by omega
    rw [lessL_drop hia hib] at hl
    obtain ⟨x, hx⟩ : ∃ x, a[i] = x := ⟨_, rfl⟩
    obtain ⟨y, hy⟩ : ∃ x, b[i] = x := ⟨_, rfl⟩
    have hxd : a[i]?.getD 0 = x := by rw [List.getElem?_eq_getElem hia, ← hx]; rfl
    have hyd : b[i]?.getD 0 = y := by rw [List.getElem?_eq_getElem hib, ← hy]; rfl
    rw [hx, hy] at hl
    by_cases hxy : x = y
    · rw [if_pos hxy] at hl
      simp -implicitDefEqProofs [q_digest_Less_L7, q_digest_Less_2, q_digest_Less_3, q_digest_Less_4, q_digest_Less_6, e2, e3, e6, f2, f3, c32, ha, hb, hxd, hyd, hxy, wi]
      exact lp_next (i + 1) ⟨by omega, by simp [e2], by simp [e3], by simp, hl, by simp [f2], by simp [f3]⟩ (by omega)
    · rw [if_neg hxy] at hl
      have hxy' : ¬ (x : Int) = y := by omega
      simp -implicitDefEqProofs [q_digest_Less_L7, q_digest_Less_2, q_digest_Less_3, q_digest_Less_4, q_digest_Less_5, e2, e3, e6, f2, f3, c32, ha, hb, hxd, hyd, hxy, hxy', a_digest_Less, outOf, hl]
  · have c32 : ¬ (i : Int) < 32 := by omega
    have hie : i = 32 := by omega
    subst hie
    rw [List.drop_of_length_le (by omega), List.drop_of_length_le (by omega)] at hl
    simp -implicitDefEqProofs [q_digest_Less_L7, q_digest_Less_2, q_digest_Less_7, e6, a_digest_Less, outOf, hl, lessL]
/-! digits -/
theorem hx_get : ∀ n : Fin 16, (bytesI ⟨#[48, 49, 50, 51, 52, 53, 54, 55, 56, 57, 97, 98, 99, 100, 101, 102]⟩).getD n.val 0 = (hx n.val : Int) := by decide +kernel
theorem hx_ext : ∀ n : Fin 16, (⟨#[48, 49, 50, 51, 52, 53, 54, 55, 56, 57, 97, 98, 99, 100, 101, 102]⟩ : ByteArray).extract n.val (n.val + 1) = sN [hx n.val] := by decide +kernel
theorem pop_hex {n : Nat} (h : n < 16) {k : IntKind} : pop .strIdx [.str ⟨#[48, 49, 50, 51, 52, 53, 54, 55, 56, 57, 97, 98, 99, 100, 101, 102]⟩, .int k (n : Int)] = some (.int .u8 (hx n : Int)) := by
  have hs : (⟨#[48, 49, 50, 51, 52, 53, 54, 55, 56, 57, 97, 98, 99, 100, 101, 102]⟩ : ByteArray).size = 16 := rfl
  have hg := hx_get ⟨n, h⟩
  simp only [pop, hs, Int.toNat_natCast, hg]
  rw [if_pos (by omega)]
theorem pop_slc {n : Nat} (h : n < 16) {k k' : IntKind} {m : Int} (hm : m = n + 1) : pop (.strSlc true true) [.str ⟨#[48, 49, 50, 51, 52, 53, 54, 55, 56, 57, 97, 98, 99, 100, 101, 102]⟩, .int k (n : Int), .int k' m] = some (.str (sN [hx n])) := by
  subst hm
  have hs : (⟨#[48, 49, 50, 51, 52, 53, 54, 55, 56, 57, 97, 98, 99, 100, 101, 102]⟩ : ByteArray).size = 16 := rfl
  have hg := hx_ext ⟨n, h⟩
  simp only [pop, hs, Int.toNat_natCast, show ((n : Int) + 1).toNat = n + 1 by omega, hg]
  rw [if_pos (by omega)]
theorem hx_lt256 (n : Nat) (h : n < 16) : hx n < 256 := by unfold hx; split <;> omega
theorem hexL_take {l : List Nat} {i : Nat} (h : i < l.length) : hexL (l.take (i + 1)) = hexL (l.take i) ++ [hx (l[i] / 16), hx (l[i] % 16)] := by
  have app : ∀ a b, hexL (a ++ b) = hexL a ++ hexL b := by
    intro a b; induction a with
    | nil => rfl
    | cons x r ih => simp [hexL, ih]
  rw [List.take_succ_eq_append_getElem h, app]; rfl
theorem hexL_byts : ∀ {l : List Nat}, byts l → byts (hexL l)
  | [], _ => by simp [byts, hexL]
  | c :: r, h => by
    have hc := h c (by simp)
    have ih := hexL_byts (l := r) fun z hz => h z (by simp [hz])
    intro x hx
    simp only [hexL, List.mem_cons] at hx
    rcases hx with rfl | rfl | hx
    · exact hx_lt256 _ (by omega)
    · exact hx_lt256 _ (by omega)
    · exact ih x hx
theorem and15 {c d : Nat} (h : c < 256) (hd : c % 16 = d) : bAnd .u8 (c : Int) 15 = (d : Int) := by
  have := bAnd_nat (k := .u8) rfl (a := c) (b := 15) (by show c < 2 ^ 8; omega) (by decide)
  have e : c &&& 15 = d := by rw [← hd]; exact Nat.and_two_pow_sub_one_eq_mod c 4
  rw [e] at this; exact this
theorem shr4 {c d : Nat} (hd : c / 16 = d) : shrI .u8 (c : Int) 4 = (d : Int) := by
  have : shrI .u8 (c : Int) ((4 : Nat) : Int) = _ := shrI_nat
  rw [show min 4 IntKind.u8.bits = 4 from rfl, show 2 ^ 4 = 16 from rfl, hd] at this
  exact this
theorem getC_iarr {k : IntKind} {n : Nat} {l : List Int} {i : Nat} (hi : i < n) : getC [.iarr k n l] i 1 .sc = some (.int k (l.getD i 0)) := by
  have tk : ∀ (m : Nat) (x : List Int), 0 < m → (match takeC [.iarr k m x] 1 with
    | some x => shp .sc x
    | none => none) = some (.int k (x.getD 0 0)) := by
    intro m x hm
    by_cases h1 : m = 1
    · subst h1; rfl
    · have : takeC [.iarr k m x] 1 = some [.iarr k 1 (x.take 1)] := by
        simp [takeC, AV.size, show ¬ m ≤ 1 by omega]
      rw [this]
      cases x <;> rfl
  unfold getC
  cases i with
  | zero => simp only [dropC]; exact tk n l hi
  | succ j =>
    have hd : dropC [.iarr k n l] (j + 1) = some [.iarr k (n - (j + 1)) (l.drop (j + 1))] := by
      simp [dropC, AV.size, show ¬ n ≤ j + 1 by omega]
    rw [hd]
    refine (tk _ _ (by omega)).trans ?_
    simp
theorem bytes_sl {v : AV} {l : List Nat} {e : TypeId} {A B : Heap} (h : SlS e .u8 v (ints l) A B) : v.isSl = true := by
  rcases h.own with ⟨rfl, _⟩ | ⟨g, rfl, _⟩ <;> rfl
theorem hexdig {l : List Nat} (hb : byts l) {i : Nat} (hil : i < l.length) : ∃ c p q, l[i] = c ∧ c < 256 ∧ c / 16 = p ∧ c % 16 = q ∧ p < 16 ∧ q < 16 ∧ l[i]?.getD 0 = c ∧ hexL (l.take (i + 1)) = hexL (l.take i) ++ [hx p, hx q] := by
  have hcb := hb _ (List.getElem_mem hil)
  exact ⟨l[i], _, _, rfl, hcb, rfl, rfl, by omega, by omega, by rw [List.getElem?_eq_getElem hil]; rfl, hexL_take hil⟩
theorem w_digest_Hex {l : List Nat} (hb : byts l) (h32 : l.length = 32) : Gives Try.prog F_digest_Hex [.iarr .u8 32 (ints l)] (.str (sN (hexL l))) := by
  refine v_digest_Hex (by simp) ?_
  simp -implicitDefEqProofs [a_digest_Hex, q_digest_Hex_0, q_digest_Hex_1, q_digest_Hex_2, h32]
  intro g1
  obtain ⟨X, hX⟩ : ∃ X : Heap, H0.set g1 (.var 39 [.iarr .u8 32 (ints l)]) = X := ⟨_, rfl⟩
  rw [hX]
  refine X_lp (fun (i : Nat) env B => i ≤ 32 ∧ env 6 = .iarr .u8 32 (ints l) ∧ env 7 = .int .i64 i ∧ SlS T_uint8 .u8 (env 3) (ints (hexL (l.take i))) X B) (fun i => 32 - i) 0
    ⟨by omega, by simp, by simp, by simpa [hexL] using SlS.nil (Sub_refl _)⟩ ?_
  rintro i env B ⟨hi, e6, e7, hv⟩
  by_cases hi32 : i < 32
  · have c32 : (i : Int) < 32 := by omega
    have wi : IntKind.i64.wrap ((i : Int) + 1) = (i : Int) + 1 := wrap_i64 (by omega)
    obtain ⟨c, p, q, hc, hcb, hp, hq, hp16, hq16, hgd, hs⟩ := hexdig hb (show i < l.length by omega)
    have w1 := shr4 hp
    have w2 := and15 hcb hq
    have w3 := pop_hex hp16 (k := .u8)
    have gc : getC [.iarr .u8 32 (ints l)] i 1 .sc = some (.int .u8 (c : Int)) := by rw [getC_iarr hi32, ints_getD, List.getD_eq_getElem?_getD, hgd]
    have w4 := pop_hex hq16 (k := .u8)
    obtain ⟨v3, hv3⟩ : ∃ v, env 3 = v := ⟨_, rfl⟩
    rw [hv3] at hv
    simp -implicitDefEqProofs [q_digest_Hex_L7, q_digest_Hex_3, q_digest_Hex_4, q_digest_Hex_5, e6, e7, hv3, c32, h32, hgd, w1, w2, w3, w4, gc, -pop, -getC]
    intro g5 hg5
    refine hv.appO (bytes := 1) (ys := [(hx p : Int), (hx q : Int)]) (sub_none hg5) ?_ (by simp; omega) fun g6 A6 h6 => ?_
    · intro Q hQ; simpa [srcI] using hQ
    have hap : ints (hexL (l.take i)) ++ [(hx p : Int), (hx q : Int)] = ints (hexL (l.take (i + 1))) := by rw [hs]; simp [ints]
    rw [hap] at h6 ⊢
    simp -implicitDefEqProofs [q_digest_Hex_6, e7, wi]
    exact lp_next (i + 1) ⟨by omega, by simp [e6], by simp, by simpa using h6⟩ (by omega)
  · have c32 : ¬ (i : Int) < 32 := by omega
    have hie : i = 32 := by omega
    subst hie
    rw [List.take_of_length_le (by omega)] at hv
    obtain ⟨v3, hv3⟩ : ∃ v, env 3 = v := ⟨_, rfl⟩
    rw [hv3] at hv
    simp -implicitDefEqProofs [q_digest_Hex_L7, q_digest_Hex_3, q_digest_Hex_7, e7, hv3, c32, a_digest_Hex, -srcI]
    refine ⟨bytes_sl hv, hv.src (Sub_refl _) _ ?_⟩
    simp -implicitDefEqProofs [strOf_ints, outOf]
theorem w_ref03_Hex {l : List Nat} (hb : byts l) (h32 : l.length = 32) : Gives Try.prog F_ref03_Hex [.iarr .u8 32 (ints l)] (.str (sN (hexL l))) := by
  refine v_ref03_Hex (by simp) ?_
  have s0 : (ByteArray.mk #[]) = sN [] := rfl
  simp -implicitDefEqProofs [a_ref03_Hex, q_ref03_Hex_0, q_ref03_Hex_1, q_ref03_Hex_2, q_ref03_Hex_3, h32]
  intro g1
  refine X_lp (fun (i : Nat) env B => i ≤ 32 ∧ env 1 = .ptr g1 0 ∧ env 3 = .str (sN (hexL (l.take i))) ∧ env 4 = .str ⟨#[48, 49, 50, 51, 52, 53, 54, 55, 56, 57, 97, 98, 99, 100, 101, 102]⟩ ∧ env 5 = .int .i64 i ∧ B g1 = some (.var 39 [.iarr .u8 32 (ints l)])) (fun i => 32 - i) 0
    ⟨by omega, by simp, by simp [s0, hexL], by simp, by simp, by simp⟩ ?_
  rintro i env B ⟨hi, e1, e3, e4, e5, f1⟩
  by_cases hi32 : i < 32
  · have c32 : (i : Int) < 32 := by omega
    have wi : IntKind.i64.wrap ((i : Int) + 1) = (i : Int) + 1 := wrap_i64 (by omega)
    obtain ⟨c, p, q, hc, hcb, hp, hq, hp16, hq16, hgd, hs⟩ := hexdig hb (show i < l.length by omega)
    have w1 : IntKind.u8.wrap ((c : Int) / 16) = (p : Int) := by rw [wrap_u8 (by omega)]; omega
    have w2 : (c : Int).tmod 16 = (q : Int) := by rw [Int.tmod_eq_emod_of_nonneg (by omega)]; omega
    have w5 : IntKind.u8.wrap ((p : Int) + 1) = (p : Int) + 1 := wrap_u8 (by omega)
    have w6 : IntKind.u8.wrap ((q : Int) + 1) = (q : Int) + 1 := wrap_u8 (by omega)
    have w3 := pop_slc hp16 (k := .u8) (k' := .u8) rfl
    have w4 := pop_slc hq16 (k := .u8) (k' := .u8) rfl
    have hls : (hexL (l.take i)).length < 1000 := by simp; omega
    obtain ⟨H, hH⟩ : ∃ H, hexL (l.take i) = H := ⟨_, rfl⟩
    rw [hH] at e3 hs hls
    have z1 : H.length + 1 < 9223372036854775808 := by omega
    have z2 : H.length + 1 + 1 < 9223372036854775808 := by omega
    simp -implicitDefEqProofs [q_ref03_Hex_L7, q_ref03_Hex_4, q_ref03_Hex_5, q_ref03_Hex_6, e1, e3, e4, e5, f1, c32, h32, hgd, w1, w2, w3, w4, w5, w6, wi, sN_append, z1, z2, -pop]
    refine lp_next (i + 1) ⟨by omega, by simp [e1], by simp [hs], by simp [e4], by simp, by simp [f1]⟩ (by omega)
  · have c32 : ¬ (i : Int) < 32 := by omega
    have hie : i = 32 := by omega
    subst hie
    rw [List.take_of_length_le (by omega)] at e3
    simp -implicitDefEqProofs [q_ref03_Hex_L7, q_ref03_Hex_4, q_ref03_Hex_7, e3, e5, c32, a_ref03_Hex, outOf]
end Go.Proofs.Ytjbiekcldkjgjaa
