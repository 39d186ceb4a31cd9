/- The walks of the filter: each over a filter that changes, Put. -/
import Derived.Test.YtjbiekcldkjgjaaFb
namespace Go.Proofs.Ytjbiekcldkjgjaa
open Go AVL
set_option linter.unusedVariables false
set_option linter.unusedSimpArgs false

theorem w_each_P (nb : Nat) (n : Int) (fp h : Nat) (t : TypeId) (a : List Nat) (ha : Bytes a) (hal : a.length = 32) (hl0 : 0 < nb) (hl : nb < 2 ^ 15) {k : FuncId} {first cap : List AV} (hk : callable Try.prog k = true)
    (Bs : Nat → Heap) (hfp : ∀ i, Bs i fp = some (.var t [.own h 0 nb, .int .i64 n]))
    (hcl : ∀ i, i < 4 → ∀ g c, Bs 0 g = none → SimX Try.prog k (first ++ .int .i64 (prb a i (8 * nb) : Nat) :: cap) ((Bs i).set g c) fun o B' => o = .ret (.bool true) ∧ B' = (Bs (i + 1)).set g c) (hn4 : ∀ g, Bs 0 g = none → Bs 4 g = none) (K Kp : AV → Heap → Prop) (hK : K (.bool true) (Bs 4)) :
    SimX Try.prog F_Pfilter_Filter_each [.ptr fp 0, adrV a, .func (.func k) first cap] (Bs 0) (outK K Kp) := by
  refine i_Pfilter_Filter_each (by simp) fun R hR => ?_
  simp -implicitDefEqProofs [a_Pfilter_Filter_each, q_Pfilter_Filter_each_0, q_Pfilter_Filter_each_1, q_Pfilter_Filter_each_2, adrV]
  intro g hg
  have hne : fp ≠ g := by rintro rfl; have := hfp 0; rw [hg] at this; cases this
  refine X_lp (fun (i : Nat) env B => i ≤ 4 ∧ env 0 = .ptr fp 0 ∧ env 2 = .func (.func k) first cap ∧ env 4 = .ptr g 0 ∧ env 7 = .bool true ∧ env 9 = .int .i64 i ∧ B = (Bs i).set g (.var T_32_uint8 [adrV a])) (fun i => 4 - i) 0
    ⟨by omega, by simp, by simp, by simp, by simp, by simp, rfl⟩ ?_
  rintro i env B ⟨hi, e0, e2, e4, e7, e9, rfl⟩
  simp -implicitDefEqProofs (disch := first | omega | simp) [q_Pfilter_Filter_each_L8, q_Pfilter_Filter_each_3, q_Pfilter_Filter_each_4, q_Pfilter_Filter_each_5, q_Pfilter_Filter_each_7, q_Pfilter_Filter_each_8, e0, e2, e4, e7, e9, adrV, wrap_i64, hfp, hne]
  refine ⟨fun hi4 => ?_, fun hi4 => ?_⟩
  · have hp := w_filter_probe a i (8 * nb) ha hal (by omega) (by omega) (by omega)
    have e8 : ((8 * nb : Nat) : Int) = 8 * (nb : Int) := by omega
    rw [e8] at hp
    refine hp.call (.cons (.refl _) rfl (.cons (.refl _) rfl (.cons (.refl _) rfl .nil))) rfl ?_
    simp -implicitDefEqProofs [hk]
    refine (hcl i (by omega) _ _ hg).mono ?_
    rintro o B ⟨rfl, rfl⟩
    simp -implicitDefEqProofs (disch := first | omega | simp) [e9, wrap_i64]
    exact lp_next (i + 1) ⟨by omega, by simp [e0], by simp [e2], by simp [e4], by simp [e7], by simp, rfl⟩ (by omega)
  · have : i = 4 := by omega
    subst this
    refine hR _ _ _ ?_
    simp -implicitDefEqProofs [a_Pfilter_Filter_each, fpost, outOf]
    exact ⟨Bs 4, sub_none (hn4 g hg), hK⟩
/-- The bytes behind i of an address's bits. -/
def putB (bs a : List Nat) : Nat → List Nat
  | 0 => bs
  | i + 1 => setB (putB bs a i) (prb a i (8 * bs.length))
@[simp] theorem putB_length (bs a : List Nat) : ∀ i, (putB bs a i).length = bs.length
  | 0 => rfl
  | i + 1 => by rw [putB, setB_length, putB_length]
theorem putB_bytes {bs : List Nat} (hb : Bytes bs) (a : List Nat) : ∀ i, Bytes (putB bs a i)
  | 0 => hb
  | i + 1 => setB_bytes (putB_bytes hb a i) _
def putA (bs a : List Nat) : List Nat := putB bs a 4
theorem w_filter_Put {A : Heap} {fp h : Nat} {t : TypeId} {n : Int} {bs a : List Nat} {K Kp : AV → Heap → Prop} (hb : Bytes bs) (hl0 : 0 < bs.length) (hl : bs.length < 2 ^ 15) (hn : 0 ≤ n ∧ n < 2 ^ 62) (ha : Bytes a) (hal : a.length = 32)
    (hA : A fp = some (.var t [.own h 0 bs.length, .int .i64 n])) (hh : A h = some (.irow T_uint8 .u8 (ints bs)))
    (hK : K (.tuple []) ((A.set h (.irow T_uint8 .u8 (ints (putA bs a)))).set fp (.var t [.own h 0 bs.length, .int .i64 (n + 1)]))) : SimX Try.prog F_Pfilter_Filter_Put [.ptr fp 0, adrV a] A (outK K Kp) := by
  have hfh : fp ≠ h := by rintro rfl; rw [hA] at hh; cases hh
  refine i_Pfilter_Filter_Put (by simp) fun R hR => ?_
  simp -implicitDefEqProofs [a_Pfilter_Filter_Put, q_Pfilter_Filter_Put_0, q_Pfilter_Filter_Put_1, q_Pfilter_Filter_Put_2, q_Pfilter_Filter_Put_3, adrV]
  intro g1 hg1 g2 h21 h12 hg2 g3 h32 h23 h31 h13 hg3
  have n1 : fp ≠ g1 := by rintro rfl; rw [hA] at hg1; cases hg1
  have n2 : fp ≠ g2 := by rintro rfl; rw [hA] at hg2; cases hg2
  have n3 : fp ≠ g3 := by rintro rfl; rw [hA] at hg3; cases hg3
  have m1 : h ≠ g1 := by rintro rfl; rw [hh] at hg1; cases hg1
  have m2 : h ≠ g2 := by rintro rfl; rw [hh] at hg2; cases hg2
  have m3 : h ≠ g3 := by rintro rfl; rw [hh] at hg3; cases hg3
  simp -implicitDefEqProofs [h21, h12, h32, h23, h31, h13]
  have hbs : ∀ i, (putB bs a i).length = bs.length := putB_length bs a
  have hlt : 0 < 8 * bs.length := by omega
  have hs : A = A.set h (.irow T_uint8 .u8 (ints (putB bs a 0))) := (set_same hh).symm
  obtain ⟨Bs, hBs⟩ : ∃ Bs : Nat → Heap, Bs = fun i => (((A.set h (.irow T_uint8 .u8 (ints (putB bs a i)))).set g1 (Cont.var 24 [AV.ptr fp 0])).set g2 (Cont.var 39 [AV.iarr IntKind.u8 32 (ints a)])).set g3 (Cont.var 109 [AV.func (Fn.func F_Pfilter_Filter_set) [] []]) := ⟨_, rfl⟩
  have e0 : ((A.set g1 (Cont.var 24 [AV.ptr fp 0])).set g2 (Cont.var 39 [AV.iarr IntKind.u8 32 (ints a)])).set g3 (Cont.var 109 [AV.func (Fn.func F_Pfilter_Filter_set) [] []]) = Bs 0 := by
    rw [hBs]; simp only; rw [← hs]
  rw [e0]
  refine w_each_P bs.length n fp h t a ha hal hl0 hl (first := []) (cap := [.ptr g3 0, .ptr g1 0]) (by simp) Bs (fun i => by rw [hBs]; simp [n1, n2, n3, hfh, hA]) (fun i hi g c hg => ?_) (fun g hg => ?_) _ _ ?_
  · have k1 : g ≠ g1 := by rintro rfl; rw [hBs] at hg; simp [h12, h13] at hg
    have k2 : g ≠ g2 := by rintro rfl; rw [hBs] at hg; simp [h23] at hg
    have k3 : g ≠ g3 := by rintro rfl; rw [hBs] at hg; simp at hg
    have kf : fp ≠ g := by rintro rfl; rw [hBs] at hg; simp [hfh, n1, n2, n3, hA] at hg
    have kh : h ≠ g := by rintro rfl; rw [hBs] at hg; simp [m1, m2, m3] at hg
    refine i_Pfilter_Filter_Put_1 (by simp) fun R hR => ?_
    simp -implicitDefEqProofs [a_Pfilter_Filter_Put_1, q_Pfilter_Filter_Put_1_0, q_Pfilter_Filter_Put_1_1, hBs, Ne.symm k3, Ne.symm k1, h12, h13]
    refine w_filter_set (t := t) (n := n) (h := h) (bs := putB bs a i) (putB_bytes hb a i) (by rw [hbs]; exact prb_lt hlt) (by rw [hbs]; omega) (by simp [kf, n1, n2, n3, hfh, hA]) (by simp [kh, m1, m2, m3]) ?_
    simp -implicitDefEqProofs
    refine hR _ _ _ ?_
    simp -implicitDefEqProofs [a_Pfilter_Filter_Put_1, fpost, outOf]
    refine sub_of_eq ?_
    rw [set_swap _ _ _ (Ne.symm kh), set_swap _ _ _ (Ne.symm m3), set_swap _ _ _ (Ne.symm m2), set_swap _ _ _ (Ne.symm m1), set_set, hBs]
    rfl
  · rw [hBs] at hg ⊢
    simp only [set_app] at hg ⊢
    split at hg
    · cases hg
    · split at hg
      · cases hg
      · split at hg
        · cases hg
        · split at hg
          · cases hg
          · rename_i z1 z2 z3 z4; rw [if_neg z1, if_neg z2, if_neg z3, if_neg z4]; exact hg
  · simp -implicitDefEqProofs (disch := first | omega | simp) [hBs, n1, n2, n3, hfh, hA, hg1, Ne.symm n1, Ne.symm n2, Ne.symm n3, h12, h13, h23, wrap_i64]
    refine hR _ _ _ ?_
    simp -implicitDefEqProofs [a_Pfilter_Filter_Put, fpost, outOf]
    refine ⟨_, ?_, hK⟩
    refine set_sub ?_
    exact sub_tr (sub_none (by simp [Ne.symm m1, hg1])) (sub_tr (sub_none (by simp [Ne.symm m2, hg2, h21])) (sub_none (by simp [Ne.symm m3, h32, h31, hg3])))
end Go.Proofs.Ytjbiekcldkjgjaa
