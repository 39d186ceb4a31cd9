/- The walks of the plan's functions: the layout's parts; the reference. -/
import Derived.Test.YtgbplcelcjffdaaPa
namespace Go.Proofs.Ytgbplcelcjffdaa
open Go AVL
set_option linter.unusedVariables false
set_option linter.unusedSimpArgs false

abbrev wSuper : ByteArray := ⟨#[115, 117, 112, 101, 114]⟩
abbrev wState : ByteArray := ⟨#[115, 116, 97, 116, 101]⟩
abbrev wMap : ByteArray := ⟨#[109, 97, 112]⟩
abbrev wClasses : ByteArray := ⟨#[99, 108, 97, 115, 115, 101, 115]⟩
abbrev wIndex : ByteArray := ⟨#[105, 110, 100, 101, 120]⟩
abbrev wText : ByteArray := ⟨#[116, 101, 120, 116]⟩
abbrev wClip : ByteArray := ⟨#[99, 108, 105, 112]⟩
abbrev wAudit : ByteArray := ⟨#[97, 117, 100, 105, 116]⟩
abbrev wHead : ByteArray := ⟨#[104, 101, 97, 100]⟩
abbrev wBody : ByteArray := ⟨#[98, 111, 100, 121]⟩
abbrev wSlot : ByteArray := ⟨#[115, 108, 111, 116]⟩
/-- The word of the part; of a layout with these numbers. -/
def partB (ix tx cl au hd bd sl tot at_ : Int) : ByteArray :=
  if at_ < 0 then ⟨#[]⟩ else if tot ≤ at_ then ⟨#[]⟩ else if sl ≤ at_ then wSlot else if bd ≤ at_ then wBody else if at_ = hd then wHead else if au ≤ at_ then wAudit else if cl ≤ at_ then wClip
  else if tx ≤ at_ then wText else if ix ≤ at_ then wIndex else if at_ = 4 then wClasses else if at_ = 3 then wMap else if at_ = 2 then wState else wSuper
theorem w_plan_Layout_Part (s t c a ix tx cl au hd bd sl tot en rm at_ : Int) : Gives Try.prog F_plan_Layout_Part [layV [s, t, c, a, ix, tx, cl, au, hd, bd, sl, tot, en, rm], .int .i64 at_] (.str (partB ix tx cl au hd bd sl tot at_)) := by
  refine v_plan_Layout_Part (by simp) ?_
  simp (maxSteps := 1000000) -implicitDefEqProofs [a_plan_Layout_Part, q_plan_Layout_Part_0, q_plan_Layout_Part_1, q_plan_Layout_Part_2, q_plan_Layout_Part_3, q_plan_Layout_Part_4, q_plan_Layout_Part_5, q_plan_Layout_Part_6, q_plan_Layout_Part_7, q_plan_Layout_Part_8, q_plan_Layout_Part_9, q_plan_Layout_Part_10, q_plan_Layout_Part_11, q_plan_Layout_Part_12, q_plan_Layout_Part_13, q_plan_Layout_Part_14, q_plan_Layout_Part_15, q_plan_Layout_Part_16, q_plan_Layout_Part_17, q_plan_Layout_Part_18, q_plan_Layout_Part_19, q_plan_Layout_Part_20, q_plan_Layout_Part_21, q_plan_Layout_Part_22, q_plan_Layout_Part_23, layV, guardO_decF]
  exact ⟨fun _ => ⟨fun _ => by rw [partB, if_neg (by omega), if_pos (by omega)], fun _ => ⟨fun _ => by rw [partB, if_neg (by omega), if_neg (by omega), if_pos (by omega)], fun _ => ⟨fun _ => by rw [partB, if_neg (by omega), if_neg (by omega), if_neg (by omega), if_pos (by omega)], fun _ => ⟨fun _ => by rw [partB, if_neg (by omega), if_neg (by omega), if_neg (by omega), if_neg (by omega), if_pos (by omega)], fun _ => ⟨fun _ => by rw [partB, if_neg (by omega), if_neg (by omega), if_neg (by omega), if_neg (by omega), if_neg (by omega), if_pos (by omega)], fun _ => ⟨fun _ => by rw [partB, if_neg (by omega), if_neg (by omega), if_neg (by omega), if_neg (by omega), if_neg (by omega), if_neg (by omega), if_pos (by omega)], fun _ => ⟨fun _ => by rw [partB, if_neg (by omega), if_neg (by omega), if_neg (by omega), if_neg (by omega), if_neg (by omega), if_neg (by omega), if_neg (by omega), if_pos (by omega)], fun _ => ⟨fun _ => by rw [partB, if_neg (by omega), if_neg (by omega), if_neg (by omega), if_neg (by omega), if_neg (by omega), if_neg (by omega), if_neg (by omega), if_neg (by omega), if_pos (by omega)], fun _ => ⟨fun _ => by rw [partB, if_neg (by omega), if_neg (by omega), if_neg (by omega), if_neg (by omega), if_neg (by omega), if_neg (by omega), if_neg (by omega), if_neg (by omega), if_neg (by omega), if_pos (by omega)], fun _ => ⟨fun _ => by rw [partB, if_neg (by omega), if_neg (by omega), if_neg (by omega), if_neg (by omega), if_neg (by omega), if_neg (by omega), if_neg (by omega), if_neg (by omega), if_neg (by omega), if_neg (by omega), if_pos (by omega)], fun _ => ⟨fun _ => by rw [partB, if_neg (by omega), if_neg (by omega), if_neg (by omega), if_neg (by omega), if_neg (by omega), if_neg (by omega), if_neg (by omega), if_neg (by omega), if_neg (by omega), if_neg (by omega), if_neg (by omega), if_pos (by omega)], fun _ => by rw [partB, if_neg (by omega), if_neg (by omega), if_neg (by omega), if_neg (by omega), if_neg (by omega), if_neg (by omega), if_neg (by omega), if_neg (by omega), if_neg (by omega), if_neg (by omega), if_neg (by omega), if_neg (by omega)]⟩⟩⟩⟩⟩⟩⟩⟩⟩⟩⟩, fun _ => by rw [partB, if_pos (by omega)]⟩
theorem w_plan_Layout_Home (s t c a ix tx cl au hd bd sl tot en rm at_ : Int) : Gives Try.prog F_plan_Layout_Home [layV [s, t, c, a, ix, tx, cl, au, hd, bd, sl, tot, en, rm], .int .i64 at_] (.bool (decide (2 ≤ at_ ∧ at_ < hd))) := by
  refine v_plan_Layout_Home (by simp) ?_
  simp -implicitDefEqProofs +contextual [a_plan_Layout_Home, q_plan_Layout_Home_0, q_plan_Layout_Home_1, layV, guardO_dec]
  omega
theorem w_plan_Layout_Bound (s t c a ix tx cl au hd bd sl tot en rm : Int) (hs : 0 ≤ s ∧ s < 1000) : Gives Try.prog F_plan_Layout_Bound [layV [s, t, c, a, ix, tx, cl, au, hd, bd, sl, tot, en, rm]] (.int .i64 (s + 1)) := by
  refine v_plan_Layout_Bound (by simp) ?_
  simp -implicitDefEqProofs (disch := first | omega | simp) [a_plan_Layout_Bound, q_plan_Layout_Bound_0, q_plan_Layout_Bound_1, layV, wrap_i64]
theorem w_plan_Same (s t c a ix tx cl au hd bd sl tot en rm s' t' c' a' ix' tx' cl' au' hd' bd' sl' tot' en' rm' : Int) : Gives Try.prog F_plan_Same [layV [s, t, c, a, ix, tx, cl, au, hd, bd, sl, tot, en, rm], layV [s', t', c', a', ix', tx', cl', au', hd', bd', sl', tot', en', rm']]
    (.bool (decide ([s, t, c, a, ix, tx, cl, au, hd, bd, sl, tot, en, rm] = [s', t', c', a', ix', tx', cl', au', hd', bd', sl', tot', en', rm']))) := by
  refine v_plan_Same (by simp) ?_
  simp -implicitDefEqProofs +contextual [a_plan_Same, q_plan_Same_0, q_plan_Same_1, layV, Bool.and_assoc]
end Go.Proofs.Ytgbplcelcjffdaa
