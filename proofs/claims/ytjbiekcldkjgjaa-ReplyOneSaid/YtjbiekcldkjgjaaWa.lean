/- The walks of word.Get, and of the reference's Get and Same. -/
import Derived.Test.YtjbiekcldkjgjaaGword
namespace Go.Proofs.Ytjbiekcldkjgjaa
open Go AVL
set_option linter.unusedVariables false
set_option linter.unusedSimpArgs false

def Bytes (l : List Nat) : Prop := ∀ x ∈ l, x < 256
theorem bytes_take {l : List Nat} (h : Bytes l) (n : Nat) : Bytes (l.take n) := fun x hx => h x (List.mem_of_mem_take hx)
theorem bytes_drop {l : List Nat} (h : Bytes l) (n : Nat) : Bytes (l.drop n) := fun x hx => h x (List.mem_of_mem_drop hx)
theorem bytes_append {a b : List Nat} (ha : Bytes a) (hb : Bytes b) : Bytes (a ++ b) := fun x hx => (List.mem_append.1 hx).elim (ha x) (hb x)
def leN : List Nat → Nat
  | [] => 0
  | c :: r => c + 256 * leN r
theorem leN_lt : ∀ (l : List Nat), Bytes l → leN l < 256 ^ l.length
  | [], _ => by simp [leN]
  | c :: r, h => by
    have h1 := leN_lt r fun x hx => h x (by simp [hx])
    have h2 := h c (by simp)
    simp only [leN, List.length_cons, Nat.pow_succ]
    omega
theorem leN_lt8 {l : List Nat} (h : Bytes l) (hl : l.length ≤ 8) : leN l < 2 ^ 64 := by
  have h1 := leN_lt l h
  have : 256 ^ l.length ≤ 256 ^ 8 := Nat.pow_le_pow_right (by decide) hl
  omega
theorem w_ref01_Get : ∀ (n : Nat) (l : List Nat), l.length = n → n ≤ 8 → Bytes l → Gives Try.prog F_ref01_Get [.isl .u8 (ints l)] (.int .u64 (leN l))
  | 0, l, hn, _, hl => by
    have : l = [] := List.eq_nil_of_length_eq_zero hn
    subst this
    refine v_ref01_Get (by simp) ?_
    simp -implicitDefEqProofs [a_ref01_Get, q_ref01_Get_0, q_ref01_Get_1, q_ref01_Get_2, leN]
  | n + 1, [], hn, _, _ => by simp at hn
  | n + 1, c :: r, hn, h8, hl => by
    have hr : Bytes r := fun x hx => hl x (by simp [hx])
    have hc := hl c (by simp)
    have hlen : r.length = n := by simpa using hn
    have ih := w_ref01_Get n r hlen (by omega) hr
    refine v_ref01_Get (by simp) ?_
    have z1 : ¬ ((n : Int) + 1 = 0) := by omega
    have z2 : ¬ (8 < (n : Int) + 1) := by omega
    have y1 : IntKind.u64.wrap (c : Int) = (c : Int) := wrap_u64 (by omega)
    have hlt := leN_lt r hr
    have hpw : 256 ^ r.length ≤ 256 ^ 7 := Nat.pow_le_pow_right (by decide) (by omega)
    have y2 : IntKind.u64.wrap (256 * ((leN r : Nat) : Int)) = 256 * ((leN r : Nat) : Int) := wrap_u64 (by omega)
    have y3 : IntKind.u64.wrap ((c : Int) + 256 * ((leN r : Nat) : Int)) = (c : Int) + 256 * ((leN r : Nat) : Int) := wrap_u64 (by omega)
    have hi : ints (c :: r) = (c : Int) :: ints r := rfl
    simp -implicitDefEqProofs [a_ref01_Get, q_ref01_Get_0, q_ref01_Get_1, q_ref01_Get_3, hlen, z1, z2, q_ref01_Get_5, y1, hi]
    have ht : List.take n r = r := List.take_of_length_le (by omega)
    rw [ht]
    refine ⟨by omega, ?_⟩
    refine ih.call (.cons (.refl _) rfl .nil) rfl ?_
    simp -implicitDefEqProofs [Sub_refl, y2, y3, leN]
theorem strOf_inj {a b : List Nat} (ha : Bytes a) (hb : Bytes b) : (strOf (ints a) = strOf (ints b)) = (a = b) := by
  apply propext
  constructor
  · intro h
    have key : ∀ {x : List Nat}, Bytes x → (strOf (ints x)).data.toList.map UInt8.toNat = x := by
      intro x hx
      simp only [strOf, ints, List.map_map]
      rw [List.map_congr_left (g := id) (fun n hn => by
        have := hx n hn
        simp [UInt8.toNat_ofNat', Nat.mod_eq_of_lt this])]
      simp
    rw [← key ha, ← key hb, h]
  · rintro rfl; rfl
theorem w_ref01_Same (a b : List Nat) (ha : Bytes a) (hb : Bytes b) : Gives Try.prog F_ref01_Same [.isl .u8 (ints a), .isl .u8 (ints b)] (.bool (decide (a = b))) := by
  refine v_ref01_Same (by simp) ?_
  simp -implicitDefEqProofs [a_ref01_Same, q_ref01_Same_0, q_ref01_Same_1, strOf_inj ha hb]
theorem shl8_or (n b : Nat) (hb : b < 256) : n * 256 ||| b = b + 256 * n := by
  have := Nat.two_pow_add_eq_or_of_lt (i := 8) (b := b) (by omega) n
  rw [Nat.mul_comm n 256]; simp only [show (2 : Nat) ^ 8 = 256 from rfl] at this; omega
theorem w_word_Get (l : List Nat) (hl : Bytes l) (h8 : l.length ≤ 8) : Gives Try.prog F_word_Get [.isl .u8 (ints l)] (.int .u64 (leN l)) := by
  refine v_word_Get (by simp) ?_
  simp -implicitDefEqProofs [a_word_Get, q_word_Get_0, q_word_Get_1, q_word_Get_2]
  refine X_lp (fun (k : Nat) env A => k ≤ l.length ∧ env 0 = .isl .u8 (ints l) ∧ env 3 = .int .u64 (leN (l.drop k)) ∧ env 4 = .int .i64 ((k : Int) - 1)) (fun k => k) l.length ⟨Nat.le_refl _, by simp, by simp [leN], ?_⟩ ?_
  · simp
    rw [wrap_i64 (by split <;> omega)]
    split <;> omega
  rintro k env A ⟨h1, h2, h3, h4⟩
  simp -implicitDefEqProofs (disch := first | omega | simp) [q_word_Get_L6, q_word_Get_3, q_word_Get_6, h2, h3, h4]
  refine ⟨fun hk => ?_, fun hk => ?_⟩
  · have hk1 : k - 1 < l.length := by omega
    have eto : ((k : Int) - 1).toNat = k - 1 := by omega
    have hd : l.drop (k - 1) = l[k - 1] :: l.drop k := by
      rw [List.drop_eq_getElem_cons hk1]; congr 2; omega
    have hb := hl _ (List.getElem_mem hk1)
    have hn8 := leN_lt8 (bytes_drop hl (k - 1)) (by simp; omega)
    rw [hd] at hn8
    simp only [leN] at hn8
    have e1 : shlI .u64 ((leN (l.drop k) : Nat) : Int) 8 = ((leN (l.drop k) * 256 : Nat) : Int) := by
      simp only [shlI]
      have : (2 : Int) ^ min (Int.toNat 8) IntKind.u64.bits = 256 := by decide
      rw [this, wrap_u64 (by omega)]; omega
    have e2 : IntKind.u64.wrap ((l[k - 1] : Nat) : Int) = ((l[k - 1] : Nat) : Int) := wrap_u64 (by omega)
    have e3 : bOr .u64 ((leN (l.drop k) * 256 : Nat) : Int) ((l[k - 1] : Nat) : Int) = ((leN (l.drop (k - 1)) : Nat) : Int) := by
      rw [bOr_nat rfl (show leN (l.drop k) * 256 < 2 ^ 64 by omega) (show l[k - 1] < 2 ^ 64 by omega), shl8_or _ _ hb, hd, leN]
    have hs : IntKind.u64.signed = false := rfl
    simp -implicitDefEqProofs (disch := first | omega | simp) [q_word_Get_4, q_word_Get_5, h2, h3, h4, eto, hk1, e1, hs]
    rw [Int.natCast_mul] at e3
    refine ⟨by omega, by omega, lp_next (k - 1) ⟨by omega, by simp [h2], ?_, ?_⟩ (by omega)⟩
    · simp only [upd]
      simp
      rw [e2]; exact e3
    · simp
      rw [wrap_i64 (by omega)]; omega
  · have : k = 0 := by omega
    subst this
    simp
end Go.Proofs.Ytjbiekcldkjgjaa
