/- The walks of the filter's reference (Has, Bytes) and of Missing. -/
import Derived.Test.YtjbiekcldkjgjaaFg
namespace Go.Proofs.Ytjbiekcldkjgjaa
open Go AVL
set_option linter.unusedVariables false
set_option linter.unusedSimpArgs false
attribute [-simp] AV.isAgg aappI aapp alen

theorem vw_own {A : Heap} {g n : Nat} {t : TypeId} {k : IntKind} {l : List Int} (h : A g = some (.irow t k l)) (hn : n = l.length) : Vw A (.own g 0 n) (.isl k l) := by
  subst hn
  have := Vw.own (A := A) (i := 0) (n := l.length) h (by omega)
  rwa [List.drop_zero, List.take_length] at this
theorem w_ref32_Has (s a : List Nat) (size : Nat) (ha : Adr a) (hl : s.length < 2 ^ 40) (hs : 0 < size) (hs2 : size < 2 ^ 20) : Gives Try.prog F_ref32_Has [.isl .i64 (ints s), adrV a, .int .i64 size] (.bool (hasS s a size)) := by
  obtain ⟨p0, e0⟩ : ∃ p, prb a 0 size = p := ⟨_, rfl⟩
  obtain ⟨p1, e1⟩ : ∃ p, prb a 1 size = p := ⟨_, rfl⟩
  obtain ⟨p2, e2⟩ : ∃ p, prb a 2 size = p := ⟨_, rfl⟩
  obtain ⟨p3, e3⟩ : ∃ p, prb a 3 size = p := ⟨_, rfl⟩
  have hb : bitsA a size = [p0, p1, p2, p3] := by rw [← e0, ← e1, ← e2, ← e3]; rfl
  have hm := w_ref32_Bits a size ha hs hs2
  rw [hb] at hm
  unfold hasS
  rw [e0, e1, e2, e3]
  clear e0 e1 e2 e3 hb
  have k0 := w_ref32_has s p0 hl
  have k1 := w_ref32_has s p1 hl
  have k2 := w_ref32_has s p2 hl
  have k3 := w_ref32_has s p3 hl
  obtain ⟨b0, e0⟩ : ∃ b, decide (p0 ∈ s) = b := ⟨_, rfl⟩
  obtain ⟨b1, e1⟩ : ∃ b, decide (p1 ∈ s) = b := ⟨_, rfl⟩
  obtain ⟨b2, e2⟩ : ∃ b, decide (p2 ∈ s) = b := ⟨_, rfl⟩
  obtain ⟨b3, e3⟩ : ∃ b, decide (p3 ∈ s) = b := ⟨_, rfl⟩
  rw [e0] at k0 ⊢
  rw [e1] at k1 ⊢
  rw [e2] at k2 ⊢
  rw [e3] at k3 ⊢
  refine v_ref32_Has (by simp) ?_
  simp -implicitDefEqProofs [a_ref32_Has, q_ref32_Has_0, q_ref32_Has_1, adrV]
  intro g
  refine hm.call (.cons (.refl _) rfl (.cons (.refl _) rfl .nil)) rfl fun gb hgb => ?_
  simp -implicitDefEqProofs [q_ref32_Has_2, ints]
  refine k0.call (.cons (.refl _) rfl (.cons (.refl _) rfl .nil)) rfl ?_
  cases b0 with
  | false => simp -implicitDefEqProofs
  | true =>
    simp -implicitDefEqProofs
    refine k1.call (.cons (.refl _) rfl (.cons (.refl _) rfl .nil)) rfl ?_
    cases b1 with
    | false => simp -implicitDefEqProofs
    | true =>
      simp -implicitDefEqProofs
      refine k2.call (.cons (.refl _) rfl (.cons (.refl _) rfl .nil)) rfl ?_
      cases b2 with
      | false => simp -implicitDefEqProofs
      | true =>
        simp -implicitDefEqProofs
        refine k3.call (.cons (.refl _) rfl (.cons (.refl _) rfl .nil)) rfl ?_
        simp -implicitDefEqProofs
def pw (j : Nat) : Nat := 2 ^ j
theorem pw_lt {j : Nat} (h : j < 8) : pw j ≤ 128 := Nat.pow_le_pow_right (n := 2) (by decide) (show j ≤ 7 by omega)
theorem pw_succ (j : Nat) : pw (j + 1) = 2 * pw j := by unfold pw; rw [Nat.pow_succ]; omega
theorem w_ref32_Bytes (s : List Nat) (nb : Nat) (h1 : 0 < nb) (h2 : nb ≤ 2048) (hn : s.Nodup) (hr : ∀ a ∈ s, a < 8 * nb) (hl : s.length < 2 ^ 40) : Makes Try.prog F_ref32_Bytes [.isl .i64 (ints s), .int .i64 (8 * nb : Int)] nb (.irow T_uint8 .u8 (ints (bsOf nb s))) := by
  have d5 : (8 * (nb : Int)).tdiv 8 = nb := by rw [Int.tdiv_eq_ediv_of_nonneg (by omega)]; omega
  refine i_ref32_Bytes (by simp) fun R hR => ?_
  simp -implicitDefEqProofs (disch := first | omega | simp) [a_ref32_Bytes, q_ref32_Bytes_0, q_ref32_Bytes_1, q_ref32_Bytes_2, d5, wrap_i64]
  refine ⟨by omega, fun g => ?_⟩
  refine X_lp (fun (i : Nat) env B => i ≤ s.length ∧ env 0 = .isl .i64 (ints s) ∧ env 5 = .own g 0 nb ∧ env 6 = .int .i64 i ∧ B = H0.set g (.irow T_uint8 .u8 (ints (setsB (zer nb) (s.take i))))) (fun i => s.length - i) 0
    ⟨by omega, by simp, by simp, by simp, by simp [zer_ints]⟩ ?_
  rintro i env B ⟨hi, e0, e5, e6, rfl⟩
  simp -implicitDefEqProofs (disch := first | omega | simp) [q_ref32_Bytes_L11, q_ref32_Bytes_3, q_ref32_Bytes_4, q_ref32_Bytes_5, q_ref32_Bytes_11, e0, e5, e6]
  refine ⟨fun hil => ?_, fun hil => ?_⟩
  · obtain ⟨b, hb⟩ : ∃ b, s[i] = b := ⟨_, rfl⟩
    have hbr : b < 8 * nb := hb ▸ hr _ (List.getElem_mem hil)
    have htk : setsB (zer nb) (s.take (i + 1)) = setB (setsB (zer nb) (s.take i)) b := by
      rw [List.take_succ_eq_append_getElem hil, setsB_append, hb]; rfl
    have hnb : hasB (setsB (zer nb) (s.take i)) b = false := by
      rw [setsB_has b _ _ (fun a ha => by rw [zer_length]; exact hr a (List.mem_of_mem_take ha)), zer_has, Bool.or_false]
      apply decide_eq_false
      intro hm
      rw [List.nodup_iff_pairwise_ne] at hn
      have := List.take_append_drop i s
      rw [← this, List.pairwise_append] at hn
      have h3 := hn.2.2 b hm b (by rw [List.drop_eq_getElem_cons hil, hb]; simp)
      exact h3 rfl
    obtain ⟨bs, hbs⟩ : ∃ bs, setsB (zer nb) (s.take i) = bs := ⟨_, rfl⟩
    have hbb : Bytes bs := hbs ▸ setsB_bytes _ (zer_bytes nb)
    have hbl : bs.length = nb := by rw [← hbs]; simp
    rw [hbs] at htk hnb ⊢
    have t8 : (b : Int).tmod 8 = ((b % 8 : Nat) : Int) := rfl
    have w8 : IntKind.i64.wrap ((b : Int) % 8) = (b : Int) % 8 := wrap_i64 (by omega)
    refine X_lp (fun (j : Nat) env B' => j ≤ b % 8 ∧ env 0 = .isl .i64 (ints s) ∧ env 5 = .own g 0 nb ∧ env 6 = .int .i64 i ∧ env 7 = .int .u8 (pw j) ∧ env 8 = .int .i64 j ∧ B' = H0.set g (.irow T_uint8 .u8 (ints bs))) (fun j => b % 8 - j) 0
      ⟨by omega, by simp [e0], by simp [e5], by simp [e6], by simp [pw], by simp, rfl⟩ ?_
    rintro j env B' ⟨hj, e0, e5, e6, e7, e8, rfl⟩
    simp -implicitDefEqProofs (disch := first | omega | simp) [q_ref32_Bytes_L9, q_ref32_Bytes_6, e0, e5, e6, e7, e8, hil, hb, t8, w8]
    refine ⟨fun hj8 => ?_, fun hj8 => ?_⟩
    · have hp := pw_lt (j := j + 1) (by omega)
      have hs := pw_succ j
      have w7 : IntKind.u8.wrap (2 * (pw j : Nat) : Int) = ((pw (j + 1) : Nat) : Int) := by rw [wrap_u8 (by omega)]; omega
      simp -implicitDefEqProofs (disch := first | omega | simp) [q_ref32_Bytes_7, q_ref32_Bytes_8, e7, e8, w7, wrap_i64]
      exact lp_next (j + 1) ⟨by omega, by simp [e0], by simp [e5], by simp [e6], by simp, by simp, rfl⟩ (by omega)
    · have : j = b % 8 := by omega
      subst this
      have hb8 : b / 8 < bs.length := by omega
      unfold hasB at hnb
      rw [List.getElem?_eq_getElem hb8, Option.getD_some] at hnb
      have hx := (bit_add _ (hbb _ (List.getElem_mem hb8)) (b % 8) (by omega) hnb).1
      have hlt : bs[b / 8] ||| 2 ^ (b % 8) < 2 ^ 8 := Nat.or_lt_two_pow (hbb _ (List.getElem_mem hb8)) (Nat.lt_of_le_of_lt (pw_lt (by omega)) (by decide))
      have hset : bs.set (b / 8) (bs[b / 8] + pw (b % 8)) = setB bs b := by
        unfold setB; rw [List.getElem?_eq_getElem hb8, Option.getD_some, ← hx]; rfl
      have hw : IntKind.u8.wrap ((bs[b / 8] : Nat) + (pw (b % 8) : Nat) : Int) = ((bs[b / 8] + pw (b % 8) : Nat) : Int) := by
        have : bs[b / 8] + pw (b % 8) < 256 := by unfold pw; rw [hx]; exact hlt
        rw [wrap_u8 (by omega)]; omega
      have wd : IntKind.i64.wrap ((b : Int) / 8) = (b : Int) / 8 := wrap_i64 (by omega)
      have gd : ((b : Int) / 8).toNat = b / 8 := by omega
      rw [← htk] at hset
      obtain ⟨y, hy⟩ : ∃ y, bs[b / 8] + pw (b % 8) = y := ⟨_, rfl⟩
      rw [hy] at hw hset
      simp -implicitDefEqProofs (disch := first | omega | simp) [q_ref32_Bytes_9, q_ref32_Bytes_10, e0, e5, e6, e7, e8, hil, hb, t8, w8, wd, gd, hb8, hw, wrap_i64]
      refine ⟨by omega, by omega, by omega, by omega, ?_⟩
      refine lp_next (i + 1) ⟨by omega, by simp [e0], by simp [e5], by simp, ?_⟩ (by omega)
      rw [hset]
  · have : i = s.length := by omega
    subst this
    rw [List.take_length]
    refine hR _ _ _ ⟨_, Sub_refl _, g, rfl, rfl⟩
end Go.Proofs.Ytjbiekcldkjgjaa
