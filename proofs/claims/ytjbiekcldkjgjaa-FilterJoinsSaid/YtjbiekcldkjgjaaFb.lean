/- The walks of the filter: set, Put. -/
import Derived.Test.YtjbiekcldkjgjaaFa
namespace Go.Proofs.Ytjbiekcldkjgjaa
open Go AVL
set_option linter.unusedVariables false
set_option linter.unusedSimpArgs false

def setB (bs : List Nat) (at_ : Nat) : List Nat := bs.set (at_ / 8) (bs[at_ / 8]?.getD 0 ||| 2 ^ (at_ % 8))
theorem setB_length (bs : List Nat) (at_ : Nat) : (setB bs at_).length = bs.length := by simp [setB]
theorem setB_bytes {bs : List Nat} (h : Bytes bs) (at_ : Nat) : Bytes (setB bs at_) := by
  intro x hx
  rcases List.mem_or_eq_of_mem_set hx with hx | rfl
  · exact h x hx
  · have h1 : bs[at_ / 8]?.getD 0 < 2 ^ 8 := by
      cases hg : bs[at_ / 8]? with
      | none => simp
      | some y => simpa using h y (List.mem_of_getElem? hg)
    have h2 : 2 ^ (at_ % 8) < 2 ^ 8 := Nat.pow_lt_pow_right (by decide) (by omega)
    exact Nat.or_lt_two_pow h1 h2
theorem w_filter_set {A : Heap} {fp h : Nat} {t : TypeId} {n : Int} {bs : List Nat} {at_ : Nat} {K Kp : AV → Heap → Prop} (hb : Bytes bs) (hat : at_ < 8 * bs.length) (hl : bs.length < 2 ^ 20) (hA : A fp = some (.var t [.own h 0 bs.length, .int .i64 n])) (hh : A h = some (.irow T_uint8 .u8 (ints bs)))
    (hK : K (.bool true) (A.set h (.irow T_uint8 .u8 (ints (setB bs at_))))) : SimX Try.prog F_Pfilter_Filter_set [.ptr fp 0, .int .i64 at_] A (outK K Kp) := by
  have h1 : at_ / 8 < bs.length := by omega
  have h8 : bs[at_ / 8] < 256 := hb _ (List.getElem_mem h1)
  have hm : at_ % 8 < 8 := by omega
  have hp : 2 ^ (at_ % 8) < 256 := Nat.pow_lt_pow_right (m := at_ % 8) (n := 8) (a := 2) (by decide) hm
  have d2 : (at_ : Int).tmod 8 = (at_ : Int) % 8 := rfl
  have d3 : IntKind.i64.wrap ((at_ : Int) / 8) = (at_ : Int) / 8 := wrap_i64 (by omega)
  have d4 : IntKind.i64.wrap ((at_ : Int) % 8) = (at_ : Int) % 8 := wrap_i64 (by omega)
  have g1 : (0 : Int) ≤ (at_ : Int) / 8 := by omega
  have g2 : (at_ : Int) / 8 < bs.length := by omega
  have g3 : (0 : Int) ≤ (at_ : Int) % 8 := by omega
  have g4 : ((at_ : Int) / 8).toNat = at_ / 8 := by omega
  have e1 : shlI .u8 1 ((at_ : Int) % 8) = ((2 ^ (at_ % 8) : Nat) : Int) := by
    simp only [shlI]
    have : min (Int.toNat ((at_ : Int) % 8)) IntKind.u8.bits = at_ % 8 := by
      rw [show ((at_ : Int) % 8).toNat = at_ % 8 from by omega]
      exact Nat.min_eq_left (by simp [IntKind.bits]; omega)
    have e0 : (2 : Int) ^ (at_ % 8) = ((2 ^ (at_ % 8) : Nat) : Int) := by norm_cast
    rw [this, Int.one_mul, e0]
    generalize 2 ^ (at_ % 8) = y at hp
    exact wrap_u8 (by omega)
  obtain ⟨x, hx⟩ : ∃ x : Nat, x = 2 ^ (at_ % 8) := ⟨_, rfl⟩
  rw [← hx] at e1 hp
  have e2 : bOr .u8 ((bs[at_ / 8] : Nat) : Int) (x : Int) = ((bs[at_ / 8] ||| x : Nat) : Int) := bOr_nat rfl h8 hp
  have e3 : setB bs at_ = bs.set (at_ / 8) (bs[at_ / 8] ||| x) := by rw [setB, hx, List.getElem?_eq_getElem h1, Option.getD_some]
  rw [e3] at hK
  refine i_Pfilter_Filter_set (by simp) fun R hR => ?_
  simp -implicitDefEqProofs [a_Pfilter_Filter_set, q_Pfilter_Filter_set_0, q_Pfilter_Filter_set_1, q_Pfilter_Filter_set_2, hA, hh, d2, d3, d4, g1, g2, g3, g4, h1, e1, e2]
  refine hR _ _ _ ?_
  simp -implicitDefEqProofs [a_Pfilter_Filter_set, fpost, outOf]
  exact ⟨_, Sub_refl _, hK⟩
end Go.Proofs.Ytjbiekcldkjgjaa
