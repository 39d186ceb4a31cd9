/- The walks of the writers of numbers: word.Put, the reference's Put; and of reply.join and the reference's addr. -/
import Derived.Test.YtjbiekcldkjgjaaWa
import Derived.Test.YtjbiekcldkjgjaaGreply
import Derived.Test.YtjbiekcldkjgjaaVsm
namespace Go.Proofs.Ytjbiekcldkjgjaa
open Go AVL
attribute [-simp] AV.isAgg aappI aapp alen
set_option linter.unusedVariables false
set_option linter.unusedSimpArgs false

/-- A number's bytes, the lowest first. -/
def le : Nat → Nat → List Nat
  | 0, _ => []
  | m + 1, n => n % 256 :: le m (n / 256)
@[simp] theorem le_length : ∀ m n, (le m n).length = m
  | 0, _ => rfl
  | m + 1, n => by simp [le, le_length m]
theorem le_bytes : ∀ m n, Bytes (le m n)
  | 0, _ => by simp [le, Bytes]
  | m + 1, n => by
    intro x hx
    rcases List.mem_cons.1 hx with rfl | hx
    · exact Nat.mod_lt _ (by decide)
    · exact le_bytes m _ x hx
theorem le_get : ∀ (m n i : Nat) (h : i < (le m n).length), (le m n)[i] = n / 256 ^ i % 256
  | 0, n, i, h => by simp at h
  | m + 1, n, 0, h => by simp [le]
  | m + 1, n, i + 1, h => by
    simp only [le, List.getElem_cons_succ]
    rw [le_get m (n / 256) i (by simpa [le] using h), Nat.div_div_eq_div_mul, Nat.pow_succ, Nat.mul_comm]
theorem leN_le : ∀ (m n : Nat), n < 256 ^ m → leN (le m n) = n
  | 0, n, h => by simp at h; subst h; rfl
  | m + 1, n, h => by
    rw [Nat.pow_succ] at h
    simp only [le, leN, leN_le m (n / 256) (by omega)]
    omega
theorem le_leN : ∀ (l : List Nat), Bytes l → le l.length (leN l) = l
  | [], _ => rfl
  | c :: r, h => by
    have hc := h c (by simp)
    have hr := le_leN r fun x hx => h x (by simp [hx])
    simp only [List.length_cons, le, leN]
    rw [show (c + 256 * leN r) % 256 = c by omega, show (c + 256 * leN r) / 256 = leN r by omega, hr]
theorem fill_set {l : List Nat} {i : Nat} (h : i < l.length) : (l.take i ++ List.replicate (l.length - i) 0).set i l[i] = l.take (i + 1) ++ List.replicate (l.length - (i + 1)) 0 := by
  rw [show l.length - i = (l.length - (i + 1)) + 1 by omega, List.replicate_succ, List.set_append_right _ _ (by simp; omega), List.length_take, show i - min i l.length = 0 by omega]
  simp only [List.set_cons_zero]
  rw [List.take_succ_eq_append_getElem h, List.append_assoc]; rfl
theorem w_word_Put {n m : Nat} (hn : n < 2 ^ 64) (hm : m ≤ 8) : Makes Try.prog F_word_Put [.int .u64 n, .int .i64 m] m (.irow T_uint8 .u8 (ints (le m n))) := by
  refine i_word_Put (by simp) fun R hR => ?_
  simp -implicitDefEqProofs (disch := first | omega | simp) [a_word_Put, q_word_Put_0, q_word_Put_1, q_word_Put_2]
  have hmx : (if (m : Int) < 0 then (0 : Int) else m) = m := by split <;> omega
  rw [hmx]
  refine ⟨by omega, by omega, fun g => ?_⟩
  have h0 : List.replicate (m : Int).toNat (0 : Int) = ints ((le m n).take 0 ++ List.replicate ((le m n).length - 0) 0) := by simp [ints]
  rw [h0]
  refine X_lp (fun (i : Nat) env B => i ≤ m ∧ env 0 = .int .u64 n ∧ env 5 = .own g 0 m ∧ env 11 = .int .i64 m ∧ env 12 = .int .i64 i ∧ B = H0.set g (.irow T_uint8 .u8 (ints ((le m n).take i ++ List.replicate ((le m n).length - i) 0)))) (fun i => m - i) 0
    ⟨by omega, by simp, by simp, by simp, by simp, rfl⟩ ?_
  rintro i env B ⟨hi, e0, e5, e11, e12, rfl⟩
  simp -implicitDefEqProofs (disch := first | omega | simp) [q_word_Put_L8, q_word_Put_3, q_word_Put_4, q_word_Put_5, q_word_Put_7, q_word_Put_8, e0, e5, e11, e12]
  refine ⟨fun hil => ?_, fun hil => ?_⟩
  · have hlt : i < (le m n).length := by simpa using hil
    obtain ⟨q, hq⟩ : ∃ q : Nat, q = n / 256 ^ i := ⟨_, rfl⟩
    have e1 : shrI .u64 (n : Int) (8 * (i : Int)) = (q : Int) := by
      have : (8 * (i : Int)) = ((8 * i : Nat) : Int) := by omega
      rw [this, shrI_nat, show min (8 * i) IntKind.u64.bits = 8 * i from Nat.min_eq_left (by show 8 * i ≤ 64; omega), Nat.pow_mul, hq]
    have e2 : IntKind.u8.wrap (q : Int) = (((le m n)[i] : Nat) : Int) := by
      rw [wrap_u8m, le_get, hq]; omega
    have e3 : IntKind.i64.wrap (8 * (i : Int)) = 8 * (i : Int) := wrap_i64 (by omega)
    have e4 := fill_set hlt
    simp only [le_length] at e4
    have e5' : (i : Int) < 8 := by omega
    have e6 : ¬ (8 : Int) ≤ i := by omega
    simp -implicitDefEqProofs (disch := first | omega | simp) [q_word_Put_6, e0, e5, e11, e12, e1, e2, e3, hil, e5', e6, e4]
    exact ⟨by omega, lp_next (i + 1) ⟨by omega, by simp [e0], by simp [e5], by simp [e11], by simp [wrap_i64 (show -9223372036854775808 ≤ (i : Int) + 1 ∧ (i : Int) + 1 < 9223372036854775808 by omega)], by simp⟩ (by omega)⟩
  · have hie : i = m := by omega
    refine hR _ _ _ ?_
    simp -implicitDefEqProofs [a_word_Put, fpost, outOf]
    rw [hie]
    simp
    rw [List.take_of_length_le (by simp)]
    exact Sub_refl _
theorem w_ref01_Put : ∀ (m n : Nat), n < 2 ^ 64 → m ≤ 8 → MakesS Try.prog F_ref01_Put [.int .u64 n, .int .i64 m] T_uint8 .u8 (ints (le m n))
  | 0, n, hn, hm => by
    refine i_ref01_Put (by simp) fun R hR => ?_
    simp -implicitDefEqProofs [a_ref01_Put, q_ref01_Put_0, q_ref01_Put_1, q_ref01_Put_2]
    refine hR _ _ _ ?_
    simp -implicitDefEqProofs [a_ref01_Put, fpost, outOf, le]
  | m + 1, n, hn, hm => by
    refine i_ref01_Put (by simp) fun R hR => ?_
    have e0 : ¬ ((m : Int) + 1 ≤ 0) := by omega
    have e1 : IntKind.u8.wrap ((n : Int).tmod 256) = ((n % 256 : Nat) : Int) := by rw [wrap_u8m, Int.tmod_eq_emod_of_nonneg (by omega)]; omega
    have e2 : IntKind.i64.wrap (m : Int) = (m : Int) := wrap_i64 (by omega)
    have e3 : IntKind.u64.wrap ((n : Int) / 256) = ((n / 256 : Nat) : Int) := by rw [wrap_u64 (by omega)]; omega
    have ih := w_ref01_Put m (n / 256) (by omega) (by omega)
    simp -implicitDefEqProofs (disch := first | omega | simp) [a_ref01_Put, q_ref01_Put_0, q_ref01_Put_1, q_ref01_Put_3, q_ref01_Put_4, e0, e1, e2, e3]
    intro g
    refine ih.call (.cons (.refl _) rfl (.cons (.refl _) rfl .nil)) fun v B hB => ?_
    have h1 : SlS T_uint8 .u8 (.own g 0 1) (ints [n % 256]) H0 B := (SlS.one (by simp) (by simp)).mono hB.sub
    simp -implicitDefEqProofs
    refine h1.appS (Sub_refl _) (hB.src (Sub_refl _)) (by simp; omega) fun v' C' h' hag => ?_
    simp -implicitDefEqProofs
    refine hR _ _ _ ?_
    simpa -implicitDefEqProofs [fpost, a_ref01_Put, outOf, hag, le] using h'.fin
def il (l : List Nat) : AV := .isl .u8 (ints l)
theorem w_reply_join (ls : List (List Nat)) (hl : ls.flatten.length ≤ 100000) (hn : ls.length ≤ 1000) : MakesS Try.prog F_reply_join [.dsl 1 (ls.map il)] T_uint8 .u8 (ints ls.flatten) := by
  refine i_reply_join (by simp) fun R hR => ?_
  simp -implicitDefEqProofs [a_reply_join, q_reply_join_0, q_reply_join_1, q_reply_join_2]
  refine X_lp (fun (i : Nat) env B => i ≤ ls.length ∧ SlS T_uint8 .u8 (env 3) (ints (ls.take i).flatten) H0 B ∧ env 6 = .dsl 1 (ls.map il) ∧ env 7 = .int .i64 ls.length ∧ env 8 = .int .i64 i) (fun i => ls.length - i) 0
    ⟨by omega, .nil (Sub_refl _), by simp, by simp, by simp⟩ ?_
  rintro i env B ⟨hi, hv, e6, e7, e8⟩
  obtain ⟨v, e3⟩ : ∃ v, env 3 = v := ⟨_, rfl⟩
  rw [e3] at hv
  simp -implicitDefEqProofs (disch := first | omega | simp) [q_reply_join_L7, q_reply_join_3, q_reply_join_7, e3, e6, e7, e8]
  refine ⟨fun hil => ?_, fun hil => ?_⟩
  · simp -implicitDefEqProofs (disch := first | omega | simp) [q_reply_join_4, q_reply_join_5, q_reply_join_6, e3, e6, e7, e8, hil, il]
    have hf : (ls.take (i + 1)).flatten = (ls.take i).flatten ++ ls[i] := by
      rw [List.take_succ_eq_append_getElem hil, List.flatten_append]; simp
    have hlen : (ls.take (i + 1)).flatten.length ≤ ls.flatten.length := by
      conv => rhs; rw [← List.take_append_drop (i + 1) ls, List.flatten_append, List.length_append]
      omega
    rw [hf, List.length_append] at hlen
    refine hv.appS (ys := ints ls[i]) (Sub_refl _) (fun Q hQ => ⟨rfl, hQ⟩) (by simp only [ints_length]; omega) fun v' C' h' hag => ?_
    simp -implicitDefEqProofs (disch := first | omega | simp) [e3, e6, e7, e8, hag]
    refine lp_next (i + 1) ⟨by omega, ?_, by simp [e6], by simp [e7], by simp [wrap_i64 (show -9223372036854775808 ≤ (i : Int) + 1 ∧ (i : Int) + 1 < 9223372036854775808 by omega)]⟩ (by omega)
    rw [hf]; simpa using h'
  · have hie : i = ls.length := by omega
    refine hR _ _ _ ?_
    rw [hie, List.take_length] at hv
    simpa -implicitDefEqProofs [fpost, a_reply_join, outOf, hv.agg] using hv.fin
/-- An address. -/
def adrV (a : List Nat) : AV := .iarr .u8 32 (ints a)
def Adr (a : List Nat) : Prop := Bytes a ∧ a.length = 32
/-- With an address behind: of what the caller owns. -/
theorem w_ref25_addr {v : AV} {l a : List Nat} {A B : Heap} {K Kp : AV → Heap → Prop} (h : SlS T_uint8 .u8 v (ints l) A B) (ha : Adr a) (hl : l.length ≤ 100000)
    (hk : ∀ v' C, SlS T_uint8 .u8 v' (ints (l ++ a)) A C → K v' C) : SimX Try.prog F_ref25_addr [v, adrV a] B (outK K Kp) := by
  refine j_ref25_addr (by simp) ?_
  simp -implicitDefEqProofs [a_ref25_addr, q_ref25_addr_0, q_ref25_addr_1, q_ref25_addr_2, adrV]
  intro g0 hg0
  have h1 := h.rebase (c := .var 39 [adrV a]) hg0
  have hA0 : A g0 = none := sub_noneL h.sub hg0
  simp only [adrV] at h1
  have hal := ha.2
  refine X_lp (fun (i : Nat) env C => i ≤ 32 ∧ SlS T_uint8 .u8 (env 5) (ints (l ++ a.take i)) (A.set g0 (.var 39 [.iarr .u8 32 (ints a)])) C ∧ env 3 = .ptr g0 0 ∧ env 6 = .int .i64 i) (fun i => 32 - i) 0
    ⟨by omega, by simpa using h1, by simp, by simp⟩ ?_
  rintro i env C ⟨hi, hv, e3, e6⟩
  obtain ⟨u, e5⟩ : ∃ u, env 5 = u := ⟨_, rfl⟩
  rw [e5] at hv
  have hg : C g0 = some (.var 39 [.iarr .u8 32 (ints a)]) := hv.sub _ _ (by simp)
  simp -implicitDefEqProofs (disch := first | omega | simp) [q_ref25_addr_L6, q_ref25_addr_3, q_ref25_addr_6, e3, e5, e6]
  refine ⟨fun hil => ?_, fun hil => ?_⟩
  · have hia : i < a.length := by omega
    simp -implicitDefEqProofs (disch := first | omega | simp) [q_ref25_addr_4, q_ref25_addr_5, e3, e5, e6, hg, hil, hia]
    intro g1 hg1
    have hf : l ++ a.take (i + 1) = (l ++ a.take i) ++ [a[i]] := by rw [List.take_succ_eq_append_getElem hia, List.append_assoc]
    refine hv.app (ys := ints [a[i]]) (by simp [ints]) (sub_none hg1) hg1 (by simp; omega) fun v' C' h' hag => ?_
    simp -implicitDefEqProofs (disch := first | omega | simp) [e3, e5, e6, hag]
    refine lp_next (i + 1) ⟨by omega, ?_, by simp [e3], by simp [wrap_i64 (show -9223372036854775808 ≤ (i : Int) + 1 ∧ (i : Int) + 1 < 9223372036854775808 by omega)]⟩ (by omega)
    rw [hf]; simpa using h'
  · have hie : i = 32 := by omega
    rw [hie, List.take_of_length_le (by omega)] at hv

    exact hk _ _ (hv.base (sub_none hA0))
end Go.Proofs.Ytjbiekcldkjgjaa
