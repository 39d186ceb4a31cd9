/- Words: numbers as bytes; the walks of word.Put, word.Get, the reference's Put and Same. -/
import Derived.Test.YtfdckjliinpjiaaGword
import Derived.Test.YtfdckjliinpjiaaVsn
namespace Go.Proofs.Ytfdckjliinpjiaa
open Go AVL
attribute [-simp] AV.isAgg aappI aapp alen
set_option linter.unusedVariables false
set_option linter.unusedSimpArgs false

def Bytes (l : List Nat) : Prop := ∀ x ∈ l, x < 256
theorem bytes_take {l : List Nat} (h : Bytes l) (n : Nat) : Bytes (l.take n) := fun x hx => h x (List.mem_of_mem_take hx)
theorem bytes_drop {l : List Nat} (h : Bytes l) (n : Nat) : Bytes (l.drop n) := fun x hx => h x (List.mem_of_mem_drop hx)
theorem bytes_append {a b : List Nat} (ha : Bytes a) (hb : Bytes b) : Bytes (a ++ b) := fun x hx => (List.mem_append.1 hx).elim (ha x) (hb x)
def leN : List Nat → Nat
  | [] => 0
  | c :: r => c + 256 * leN r
theorem leN_lt : ∀ (l : List Nat), Bytes l → leN l < 256 ^ l.length
  | [], _ => by simp [leN]
  | c :: r, h => by
    have h1 := leN_lt r fun x hx => h x (by simp [hx])
    have h2 := h c (by simp)
    simp only [leN, List.length_cons, Nat.pow_succ]
    omega
theorem leN_lt8 {l : List Nat} (h : Bytes l) (hl : l.length ≤ 8) : leN l < 2 ^ 64 := by
  have h1 := leN_lt l h
  have : 256 ^ l.length ≤ 256 ^ 8 := Nat.pow_le_pow_right (by decide) hl
  omega
theorem strOf_inj {a b : List Nat} (ha : Bytes a) (hb : Bytes b) : (strOf (ints a) = strOf (ints b)) = (a = b) := by
  apply propext
  constructor
  · intro h
    have key : ∀ {x : List Nat}, Bytes x → (strOf (ints x)).data.toList.map UInt8.toNat = x := by
      intro x hx
      simp only [strOf, ints, List.map_map]
      rw [List.map_congr_left (g := id) (fun n hn => by
        have := hx n hn
        simp [UInt8.toNat_ofNat', Nat.mod_eq_of_lt this])]
      simp
    rw [← key ha, ← key hb, h]
  · rintro rfl; rfl
theorem w_ref01_Same (a b : List Nat) (ha : Bytes a) (hb : Bytes b) : Gives Try.prog F_ref01_Same [.isl .u8 (ints a), .isl .u8 (ints b)] (.bool (decide (a = b))) := by
  refine v_ref01_Same (by simp) ?_
  simp -implicitDefEqProofs [a_ref01_Same, q_ref01_Same_0, q_ref01_Same_1, strOf_inj ha hb]
theorem shl8_or (n b : Nat) (hb : b < 256) : n * 256 ||| b = b + 256 * n := by
  have := Nat.two_pow_add_eq_or_of_lt (i := 8) (b := b) (by omega) n
  rw [Nat.mul_comm n 256]; simp only [show (2 : Nat) ^ 8 = 256 from rfl] at this; omega
theorem w_word_Get (l : List Nat) (hl : Bytes l) (h8 : l.length ≤ 8) : Gives Try.prog F_word_Get [.isl .u8 (ints l)] (.int .u64 (leN l)) := by
  refine v_word_Get (by simp) ?_
  simp -implicitDefEqProofs [a_word_Get, q_word_Get_0, q_word_Get_1, q_word_Get_2]
  refine X_lp (fun (k : Nat) env A => k ≤ l.length ∧ env 0 = .isl .u8 (ints l) ∧ env 3 = .int .u64 (leN (l.drop k)) ∧ env 4 = .int .i64 ((k : Int) - 1)) (fun k => k) l.length ⟨Nat.le_refl _, by simp, by simp [leN], ?_⟩ ?_
  · simp
    rw [wrap_i64 (by split <;> omega)]
    split <;> omega
  rintro k env A ⟨h1, h2, h3, h4⟩
  simp -implicitDefEqProofs (disch := first | omega | simp) [q_word_Get_L6, q_word_Get_3, q_word_Get_6, h2, h3, h4]
  refine ⟨fun hk => ?_, fun hk => ?_⟩
  · have hk1 : k - 1 < l.length := by omega
    have eto : ((k : Int) - 1).toNat = k - 1 := by omega
    have hd : l.drop (k - 1) = l[k - 1] :: l.drop k := by
      rw [List.drop_eq_getElem_cons hk1]; congr 2; omega
    have hb := hl _ (List.getElem_mem hk1)
    have hn8 := leN_lt8 (bytes_drop hl (k - 1)) (by simp; omega)
    rw [hd] at hn8
    simp only [leN] at hn8
    have e1 : shlI .u64 ((leN (l.drop k) : Nat) : Int) 8 = ((leN (l.drop k) * 256 : Nat) : Int) := by
      simp only [shlI]
      have : (2 : Int) ^ min (Int.toNat 8) IntKind.u64.bits = 256 := by decide
      rw [this, wrap_u64 (by omega)]; omega
    have e2 : IntKind.u64.wrap ((l[k - 1] : Nat) : Int) = ((l[k - 1] : Nat) : Int) := wrap_u64 (by omega)
    have e3 : bOr .u64 ((leN (l.drop k) * 256 : Nat) : Int) ((l[k - 1] : Nat) : Int) = ((leN (l.drop (k - 1)) : Nat) : Int) := by
      rw [bOr_nat rfl (show leN (l.drop k) * 256 < 2 ^ 64 by omega) (show l[k - 1] < 2 ^ 64 by omega), shl8_or _ _ hb, hd, leN]
    have hs : IntKind.u64.signed = false := rfl
    simp -implicitDefEqProofs (disch := first | omega | simp) [q_word_Get_4, q_word_Get_5, h2, h3, h4, eto, hk1, e1, hs]
    rw [Int.natCast_mul] at e3
    refine ⟨by omega, by omega, lp_next (k - 1) ⟨by omega, by simp [h2], ?_, ?_⟩ (by omega)⟩
    · simp only [upd]
      simp
      rw [e2]; exact e3
    · simp
      rw [wrap_i64 (by omega)]; omega
  · have : k = 0 := by omega
    subst this
    simp
/-- A number's bytes, the lowest first. -/
def le : Nat → Nat → List Nat
  | 0, _ => []
  | m + 1, n => n % 256 :: le m (n / 256)
@[simp] theorem le_length : ∀ m n, (le m n).length = m
  | 0, _ => rfl
  | m + 1, n => by simp [le, le_length m]
theorem le_bytes : ∀ m n, Bytes (le m n)
  | 0, _ => by simp [le, Bytes]
  | m + 1, n => by
    intro x hx
    rcases List.mem_cons.1 hx with rfl | hx
    · exact Nat.mod_lt _ (by decide)
    · exact le_bytes m _ x hx
theorem le_get : ∀ (m n i : Nat) (h : i < (le m n).length), (le m n)[i] = n / 256 ^ i % 256
  | 0, n, i, h => by simp at h
  | m + 1, n, 0, h => by simp [le]
  | m + 1, n, i + 1, h => by
    simp only [le, List.getElem_cons_succ]
    rw [le_get m (n / 256) i (by simpa [le] using h), Nat.div_div_eq_div_mul, Nat.pow_succ, Nat.mul_comm]
theorem leN_le : ∀ (m n : Nat), n < 256 ^ m → leN (le m n) = n
  | 0, n, h => by simp at h; subst h; rfl
  | m + 1, n, h => by
    rw [Nat.pow_succ] at h
    simp only [le, leN, leN_le m (n / 256) (by omega)]
    omega
theorem le_leN : ∀ (l : List Nat), Bytes l → le l.length (leN l) = l
  | [], _ => rfl
  | c :: r, h => by
    have hc := h c (by simp)
    have hr := le_leN r fun x hx => h x (by simp [hx])
    simp only [List.length_cons, le, leN]
    rw [show (c + 256 * leN r) % 256 = c by omega, show (c + 256 * leN r) / 256 = leN r by omega, hr]
theorem fill_set {l : List Nat} {i : Nat} (h : i < l.length) : (l.take i ++ List.replicate (l.length - i) 0).set i l[i] = l.take (i + 1) ++ List.replicate (l.length - (i + 1)) 0 := by
  rw [show l.length - i = (l.length - (i + 1)) + 1 by omega, List.replicate_succ, List.set_append_right _ _ (by simp; omega), List.length_take, show i - min i l.length = 0 by omega]
  simp only [List.set_cons_zero]
  rw [List.take_succ_eq_append_getElem h, List.append_assoc]; rfl
theorem w_word_Put {n m : Nat} (hn : n < 2 ^ 64) (hm : m ≤ 8) : Makes Try.prog F_word_Put [.int .u64 n, .int .i64 m] m (.irow T_uint8 .u8 (ints (le m n))) := by
  refine i_word_Put (by simp) fun R hR => ?_
  simp -implicitDefEqProofs (disch := first | omega | simp) [a_word_Put, q_word_Put_0, q_word_Put_1, q_word_Put_2]
  have hmx : (if (m : Int) < 0 then (0 : Int) else m) = m := by split <;> omega
  rw [hmx]
  refine ⟨by omega, by omega, fun g => ?_⟩
  have h0 : List.replicate (m : Int).toNat (0 : Int) = ints ((le m n).take 0 ++ List.replicate ((le m n).length - 0) 0) := by simp [ints]
  rw [h0]
  refine X_lp (fun (i : Nat) env B => i ≤ m ∧ env 0 = .int .u64 n ∧ env 5 = .own g 0 m ∧ env 11 = .int .i64 m ∧ env 12 = .int .i64 i ∧ B = H0.set g (.irow T_uint8 .u8 (ints ((le m n).take i ++ List.replicate ((le m n).length - i) 0)))) (fun i => m - i) 0
    ⟨by omega, by simp, by simp, by simp, by simp, rfl⟩ ?_
  rintro i env B ⟨hi, e0, e5, e11, e12, rfl⟩
  simp -implicitDefEqProofs (disch := first | omega | simp) [q_word_Put_L8, q_word_Put_3, q_word_Put_4, q_word_Put_5, q_word_Put_7, q_word_Put_8, e0, e5, e11, e12]
  refine ⟨fun hil => ?_, fun hil => ?_⟩
  · have hlt : i < (le m n).length := by simpa using hil
    obtain ⟨q, hq⟩ : ∃ q : Nat, q = n / 256 ^ i := ⟨_, rfl⟩
    have e1 : shrI .u64 (n : Int) (8 * (i : Int)) = (q : Int) := by
      have : (8 * (i : Int)) = ((8 * i : Nat) : Int) := by omega
      rw [this, shrI_nat, show min (8 * i) IntKind.u64.bits = 8 * i from Nat.min_eq_left (by show 8 * i ≤ 64; omega), Nat.pow_mul, hq]
    have e2 : IntKind.u8.wrap (q : Int) = (((le m n)[i] : Nat) : Int) := by
      rw [wrap_u8m, le_get, hq]; omega
    have e3 : IntKind.i64.wrap (8 * (i : Int)) = 8 * (i : Int) := wrap_i64 (by omega)
    have e4 := fill_set hlt
    simp only [le_length] at e4
    have e5' : (i : Int) < 8 := by omega
    have e6 : ¬ (8 : Int) ≤ i := by omega
    simp -implicitDefEqProofs (disch := first | omega | simp) [q_word_Put_6, e0, e5, e11, e12, e1, e2, e3, hil, e5', e6, e4]
    exact ⟨by omega, lp_next (i + 1) ⟨by omega, by simp [e0], by simp [e5], by simp [e11], by simp [wrap_i64 (show -9223372036854775808 ≤ (i : Int) + 1 ∧ (i : Int) + 1 < 9223372036854775808 by omega)], by simp⟩ (by omega)⟩
  · have hie : i = m := by omega
    refine hR _ _ _ ?_
    simp -implicitDefEqProofs [a_word_Put, fpost, outOf]
    rw [hie]
    simp
    rw [List.take_of_length_le (by simp)]
    exact Sub_refl _
theorem w_ref01_Put : ∀ (m n : Nat), n < 2 ^ 64 → m ≤ 8 → MakesS Try.prog F_ref01_Put [.int .u64 n, .int .i64 m] T_uint8 .u8 (ints (le m n))
  | 0, n, hn, hm => by
    refine i_ref01_Put (by simp) fun R hR => ?_
    simp -implicitDefEqProofs [a_ref01_Put, q_ref01_Put_0, q_ref01_Put_1, q_ref01_Put_2]
    refine hR _ _ _ ?_
    simp -implicitDefEqProofs [a_ref01_Put, fpost, outOf, le]
  | m + 1, n, hn, hm => by
    refine i_ref01_Put (by simp) fun R hR => ?_
    have e0 : ¬ ((m : Int) + 1 ≤ 0) := by omega
    have e1 : IntKind.u8.wrap ((n : Int).tmod 256) = ((n % 256 : Nat) : Int) := by rw [wrap_u8m, Int.tmod_eq_emod_of_nonneg (by omega)]; omega
    have e2 : IntKind.i64.wrap (m : Int) = (m : Int) := wrap_i64 (by omega)
    have e3 : IntKind.u64.wrap ((n : Int) / 256) = ((n / 256 : Nat) : Int) := by rw [wrap_u64 (by omega)]; omega
    have ih := w_ref01_Put m (n / 256) (by omega) (by omega)
    simp -implicitDefEqProofs (disch := first | omega | simp) [a_ref01_Put, q_ref01_Put_0, q_ref01_Put_1, q_ref01_Put_3, q_ref01_Put_4, e0, e1, e2, e3]
    intro g
    refine ih.call (.cons (.refl _) rfl (.cons (.refl _) rfl .nil)) fun v B hB => ?_
    have h1 : SlS T_uint8 .u8 (.own g 0 1) (ints [n % 256]) H0 B := (SlS.one (by simp) (by simp)).mono hB.sub
    simp -implicitDefEqProofs
    refine h1.appS (Sub_refl _) (hB.src (Sub_refl _)) (by simp; omega) fun v' C' h' hag => ?_
    simp -implicitDefEqProofs
    refine hR _ _ _ ?_
    simpa -implicitDefEqProofs [fpost, a_ref01_Put, outOf, hag, le] using h'.fin
def il (l : List Nat) : AV := .isl .u8 (ints l)
end Go.Proofs.Ytfdckjliinpjiaa
