/- The walks of the filter: probe, has, Has. -/
import Derived.Test.YtjbiekcldkjgjaaGfilter
import Derived.Test.YtjbiekcldkjgjaaWa
import Derived.Test.YtjbiekcldkjgjaaVsl
import Derived.Test.YtjbiekcldkjgjaaVw
namespace Go.Proofs.Ytjbiekcldkjgjaa
open Go AVL
set_option linter.unusedVariables false
set_option linter.unusedSimpArgs false

/-- The bit that an address has as its i-th, of so many. -/
def prb (a : List Nat) (i size : Nat) : Nat := leN ((a.drop (8 * i)).take 8) % size
theorem prb_lt {a : List Nat} {i size : Nat} (h : 0 < size) : prb a i size < size := Nat.mod_lt _ h
def adrV (a : List Nat) : AV := .iarr .u8 32 (ints a)
theorem w_filter_probe (a : List Nat) (i size : Nat) (ha : Bytes a) (hl : a.length = 32) (hi : i < 4) (hs : 0 < size) (hs2 : size < 2 ^ 20) : Gives Try.prog F_filter_probe [adrV a, .int .i64 i, .int .i64 size] (.int .i64 (prb a i size)) := by
  refine v_filter_probe (by simp) ?_
  simp -implicitDefEqProofs (disch := first | omega | simp) [a_filter_probe, q_filter_probe_0, q_filter_probe_1, adrV, wrap_i64]
  intro g
  refine ⟨by omega, by omega, by omega, ?_⟩
  have e1 : ((8 * (i : Int)).toNat) = 8 * i := by omega
  have e2 : ((8 * (i : Int) + 8).toNat) - 8 * i = 8 := by omega
  rw [e1, e2]
  have hv := Vw.asl (A := H0.set g (.var 39 [.iarr .u8 32 (ints a)])) (g := g) (o := 0) (m := 32) (i := 8 * i) (n := 8) (l := [.iarr .u8 32 (ints a)]) (k := .u8) (xs := ints a) set_eq' rfl (by simp [hl])
  rw [ints_drop, ints_take] at hv
  have hb := bytes_take (bytes_drop ha (8 * i)) 8
  have h8 : ((a.drop (8 * i)).take 8).length ≤ 8 := by simp; omega
  refine (w_word_Get _ hb h8).call (.cons hv rfl .nil) rfl ?_
  have hlt := leN_lt8 hb h8
  have q1 : IntKind.u64.wrap (size : Int) = (size : Int) := wrap_u64 (by omega)
  have q2 : ((leN ((a.drop (8 * i)).take 8) : Nat) : Int).tmod (size : Int) = ((prb a i size : Nat) : Int) := rfl
  have q3 := prb_lt (a := a) (i := i) hs
  have q4 : IntKind.i64.wrap ((prb a i size : Nat) : Int) = ((prb a i size : Nat) : Int) := wrap_i64 (by omega)
  have q5 : ¬ ((size : Int) = 0) := by omega
  have q6 : IntKind.u64.wrap ((prb a i size : Nat) : Int) = ((prb a i size : Nat) : Int) := wrap_u64 (by omega)
  simp -implicitDefEqProofs [q1, q2, q4, q5, q6]
  omega
/-- Is the bit set? -/
def hasB (bs : List Nat) (at_ : Nat) : Bool := (bs[at_ / 8]?.getD 0).testBit (at_ % 8)
def filV (bs : List Nat) (n : Int) : AV := .agg [.isl .u8 (ints bs), .int .i64 n]
theorem w_filter_has (bs : List Nat) (n : Int) (at_ : Nat) (hb : Bytes bs) (hat : at_ < 8 * bs.length) (hl : bs.length < 2 ^ 20) : Gives Try.prog F_Pfilter_Filter_has [.pval (filV bs n), .int .i64 at_] (.bool (hasB bs at_)) := by
  have h1 : at_ / 8 < bs.length := by omega
  have h8 : bs[at_ / 8] < 256 := hb _ (List.getElem_mem h1)
  have hm : at_ % 8 < 8 := by omega
  have e1 : shrI .u8 ((bs[at_ / 8] : Nat) : Int) ((at_ : Int) % 8) = ((bs[at_ / 8] / 2 ^ (at_ % 8) : Nat) : Int) := by
    rw [show (at_ : Int) % 8 = ((at_ % 8 : Nat) : Int) from rfl, shrI_nat, Nat.min_eq_left (by simp [IntKind.bits]; omega)]
  have hlt : bs[at_ / 8] / 2 ^ (at_ % 8) < 256 := Nat.lt_of_le_of_lt (Nat.div_le_self _ _) h8
  have e2 : decide (bAnd .u8 ((bs[at_ / 8] / 2 ^ (at_ % 8) : Nat) : Int) 1 = 1) = hasB bs at_ := by
    rw [show (1 : Int) = ((1 : Nat) : Int) from rfl, bAnd_nat rfl hlt (by decide), hasB, List.getElem?_eq_getElem h1, Nat.and_one_is_mod, Option.getD_some, Nat.testBit_eq_decide_div_mod_eq]
    apply decide_eq_decide.2
    omega
  obtain ⟨r, hr⟩ : ∃ r, r = hasB bs at_ := ⟨_, rfl⟩
  obtain ⟨x, hx⟩ : ∃ x : Int, x = ((bs[at_ / 8] / 2 ^ (at_ % 8) : Nat) : Int) := ⟨_, rfl⟩
  rw [← hr] at e2 ⊢
  rw [← hx] at e1 e2
  clear hr hx hlt
  have d2 : (at_ : Int).tmod 8 = (at_ : Int) % 8 := rfl
  have d3 : IntKind.i64.wrap ((at_ : Int) / 8) = (at_ : Int) / 8 := wrap_i64 (by omega)
  have d4 : IntKind.i64.wrap ((at_ : Int) % 8) = (at_ : Int) % 8 := wrap_i64 (by omega)
  have g1 : (0 : Int) ≤ (at_ : Int) / 8 := by omega
  have g2 : (at_ : Int) / 8 < bs.length := by omega
  have g3 : (0 : Int) ≤ (at_ : Int) % 8 := by omega
  have g4 : ((at_ : Int) / 8).toNat = at_ / 8 := by omega
  refine i_Pfilter_Filter_has (by simp) fun R hR => ?_
  simp -implicitDefEqProofs [a_Pfilter_Filter_has, q_Pfilter_Filter_has_0, q_Pfilter_Filter_has_1, filV, d2, d3, d4, g1, g2, g3, g4, h1, e1, e2]
  exact hR _ _ _ ⟨H0, Sub_refl _, rfl, rfl⟩
theorem w_each_V (bs : List Nat) (n : Int) (a : List Nat) (ha : Bytes a) (hal : a.length = 32) (hl0 : 0 < bs.length) (hl : bs.length < 2 ^ 15) {k : FuncId} {first cap : List AV} (rs : Nat → Bool) (hk : callable Try.prog k = true)
    (hcl : ∀ i, i < 4 → ∀ B, SimX Try.prog k (first ++ .int .i64 (prb a i (8 * bs.length) : Nat) :: cap) B fun o B' => o = .ret (.bool (rs i)) ∧ B' = B) (A : Heap) (K Kp : AV → Heap → Prop) (hK : K (.bool (rs 0 && rs 1 && rs 2 && rs 3)) A) :
    SimX Try.prog F_Pfilter_Filter_each [.pval (filV bs n), adrV a, .func (.func k) first cap] A (outK K Kp) := by
  refine i_Pfilter_Filter_each (by simp) fun R hR => ?_
  simp -implicitDefEqProofs [a_Pfilter_Filter_each, q_Pfilter_Filter_each_0, q_Pfilter_Filter_each_1, q_Pfilter_Filter_each_2, adrV]
  intro g hg
  refine X_lp (fun (i : Nat) env B => i ≤ 4 ∧ env 0 = .pval (filV bs n) ∧ env 2 = .func (.func k) first cap ∧ env 4 = .ptr g 0 ∧ env 7 = .bool ((List.range i).all rs) ∧ env 9 = .int .i64 i ∧ B = A.set g (.var T_32_uint8 [adrV a])) (fun i => 4 - i) 0
    ⟨by omega, by simp, by simp, by simp, by simp, by simp, rfl⟩ ?_
  rintro i env B ⟨hi, e0, e2, e4, e7, e9, rfl⟩
  simp -implicitDefEqProofs (disch := first | omega | simp) [q_Pfilter_Filter_each_L8, q_Pfilter_Filter_each_3, q_Pfilter_Filter_each_4, q_Pfilter_Filter_each_5, q_Pfilter_Filter_each_7, q_Pfilter_Filter_each_8, e0, e2, e4, e7, e9, filV, adrV, wrap_i64]
  refine ⟨fun hi4 => ?_, fun hi4 => ?_⟩
  · have hp := w_filter_probe a i (8 * bs.length) ha hal (by omega) (by omega) (by omega)
    have e8 : ((8 * bs.length : Nat) : Int) = 8 * (bs.length : Int) := by omega
    rw [e8] at hp
    refine hp.call (.cons (.refl _) rfl (.cons (.refl _) rfl (.cons (.refl _) rfl .nil))) rfl ?_
    simp -implicitDefEqProofs [hk]
    refine (hcl i (by omega) _).mono ?_
    rintro o B ⟨rfl, rfl⟩
    have hsucc : (List.range (i + 1)).all rs = ((List.range i).all rs && rs i) := by simp [List.range_succ]
    cases hri : rs i with
    | false =>
      simp -implicitDefEqProofs (disch := first | omega | simp) [q_Pfilter_Filter_each_6, e9, wrap_i64]
      exact lp_next (i + 1) ⟨by omega, by simp [e0, filV], by simp [e2], by simp [e4], by simp only [hsucc, hri]; simp, by simp, rfl⟩ (by omega)
    | true =>
      simp -implicitDefEqProofs (disch := first | omega | simp) [e9, wrap_i64]
      exact lp_next (i + 1) ⟨by omega, by simp [e0, filV], by simp [e2], by simp [e4], by simp only [hsucc, hri]; simp [e7], by simp, rfl⟩ (by omega)
  · have : i = 4 := by omega
    subst this
    refine hR _ _ _ ?_
    simp -implicitDefEqProofs [a_Pfilter_Filter_each, fpost, outOf]
    refine ⟨A, sub_none hg, ?_⟩
    have : (List.range 4).all rs = (rs 0 && rs 1 && rs 2 && rs 3) := by simp [List.range, List.range.loop, Bool.and_assoc]
    rw [this]; exact hK
/-- May the address be there? -/
def hasA (bs a : List Nat) : Bool := hasB bs (prb a 0 (8 * bs.length)) && hasB bs (prb a 1 (8 * bs.length)) && hasB bs (prb a 2 (8 * bs.length)) && hasB bs (prb a 3 (8 * bs.length))
theorem w_filter_Has (bs : List Nat) (n : Int) (a : List Nat) (hb : Bytes bs) (ha : Bytes a) (hal : a.length = 32) (hl0 : 0 < bs.length) (hl : bs.length < 2 ^ 15) : Gives Try.prog F_Pfilter_Filter_Has [.pval (filV bs n), adrV a] (.bool (hasA bs a)) := by
  obtain ⟨r, hr⟩ : ∃ r, r = hasA bs a := ⟨_, rfl⟩
  rw [← hr]
  refine i_Pfilter_Filter_Has (by simp) fun R hR => ?_
  simp -implicitDefEqProofs [a_Pfilter_Filter_Has, q_Pfilter_Filter_Has_0, q_Pfilter_Filter_Has_1, adrV, filV]
  intro g
  refine w_each_V bs n a ha hal hl0 hl (fun i => hasB bs (prb a i (8 * bs.length))) (by simp) (fun i hi B => ?_) _ _ _ ?_
  · refine SimX.view (w_filter_has bs n _ hb (prb_lt (by omega)) (by omega)) (A := B) (args := [.pval (filV bs n), .int .i64 (prb a i (8 * bs.length) : Nat)]) (.cons (.refl _) rfl (.cons (.refl _) rfl .nil)) (fun o B' ⟨h1, h2⟩ => by subst h1; subst h2; exact ⟨rfl, fun g c hc => by cases hc⟩) (fun o B' ⟨h1, h2⟩ _ => by subst h1; subst h2; rw [join_H0]; exact ⟨rfl, rfl⟩)
  · simp -implicitDefEqProofs
    refine hR _ _ _ ⟨H0, H0_sub _, ?_, rfl⟩
    rw [hr]; simp [outOf, hasA]
end Go.Proofs.Ytjbiekcldkjgjaa
