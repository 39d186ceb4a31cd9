/- The walks of the filter: Join, Of. -/
import Derived.Test.YtjbiekcldkjgjaaFd
namespace Go.Proofs.Ytjbiekcldkjgjaa
open Go AVL
set_option linter.unusedVariables false
set_option linter.unusedSimpArgs false

/-- The bytes of both, of the first i. -/
def orB (bs cs : List Nat) : Nat → List Nat
  | 0 => bs
  | i + 1 => (orB bs cs i).set i ((orB bs cs i)[i]?.getD 0 ||| cs[i]?.getD 0)
@[simp] theorem orB_length (bs cs : List Nat) : ∀ i, (orB bs cs i).length = bs.length
  | 0 => rfl
  | i + 1 => by rw [orB, List.length_set, orB_length]
theorem getD_byte {bs : List Nat} (hb : Bytes bs) (i : Nat) : bs[i]?.getD 0 < 2 ^ 8 := by
  cases hg : bs[i]? with
  | none => simp
  | some y => simpa using hb y (List.mem_of_getElem? hg)
theorem orB_bytes {bs cs : List Nat} (hb : Bytes bs) (hc : Bytes cs) : ∀ i, Bytes (orB bs cs i)
  | 0 => hb
  | i + 1 => by
    intro x hx
    rcases List.mem_or_eq_of_mem_set hx with hx | rfl
    · exact orB_bytes hb hc i x hx
    · exact Nat.or_lt_two_pow (getD_byte (orB_bytes hb hc i) i) (getD_byte hc i)
section
variable {A : Heap} {fp h op ho : Nat} {t t' : TypeId} {n m : Int} {bs cs : List Nat} {K Kp : AV → Heap → Prop}
theorem w_filter_Join_bad (hl : bs.length ≤ 2048) (hlc : cs.length ≤ 2048) (hA : A fp = some (.var t [.own h 0 bs.length, .int .i64 n])) (hO : A op = some (.var t' [.own ho 0 cs.length, .int .i64 m]))
    (hne : bs.length ≠ cs.length) (hK : K (.int .i64 15) A) : SimX Try.prog F_Pfilter_Filter_Join [.ptr fp 0, .ptr op 0] A (outK K Kp) := by
  have hne' : ¬ ((cs.length : Int) = bs.length) := by omega
  have hne'' : ¬ (cs.length = bs.length) := by omega
  refine i_Pfilter_Filter_Join (by simp) fun R hR => ?_
  simp -implicitDefEqProofs (disch := first | omega | simp) [a_Pfilter_Filter_Join, q_Pfilter_Filter_Join_0, q_Pfilter_Filter_Join_1, q_Pfilter_Filter_Join_2, hA, hO, hne', hne'']
  refine hR _ _ _ ?_
  simp -implicitDefEqProofs [a_Pfilter_Filter_Join, fpost, outOf]
  exact ⟨_, Sub_refl _, hK⟩
theorem w_filter_Join (hb : Bytes bs) (hc : Bytes cs) (hl : bs.length ≤ 2048) (hA : A fp = some (.var t [.own h 0 bs.length, .int .i64 n])) (hO : A op = some (.var t' [.own ho 0 cs.length, .int .i64 m]))
    (hh : A h = some (.irow T_uint8 .u8 (ints bs))) (hho : A ho = some (.irow T_uint8 .u8 (ints cs))) (hne : h ≠ ho) (hfo : fp ≠ op) (he : bs.length = cs.length) (hn : 0 ≤ n ∧ n < 2 ^ 62) (hm : 0 ≤ m ∧ m < 2 ^ 62)
    (hK : K (.int .i64 0) ((A.set h (.irow T_uint8 .u8 (ints (orB bs cs bs.length)))).set fp (.var t [.own h 0 bs.length, .int .i64 (n + m)]))) : SimX Try.prog F_Pfilter_Filter_Join [.ptr fp 0, .ptr op 0] A (outK K Kp) := by
  have he' : (cs.length : Int) = bs.length := by omega
  have hfh : fp ≠ h := by rintro rfl; rw [hA] at hh; cases hh
  have hfho : fp ≠ ho := by rintro rfl; rw [hA] at hho; cases hho
  have hoh : op ≠ h := by rintro rfl; rw [hO] at hh; cases hh
  have hoho : op ≠ ho := by rintro rfl; rw [hO] at hho; cases hho
  refine i_Pfilter_Filter_Join (by simp) fun R hR => ?_
  simp -implicitDefEqProofs (disch := first | omega | simp) [a_Pfilter_Filter_Join, q_Pfilter_Filter_Join_0, q_Pfilter_Filter_Join_1, q_Pfilter_Filter_Join_3, hA, hO, he', he]
  refine X_lp (fun (i : Nat) env B => i ≤ bs.length ∧ env 0 = .ptr fp 0 ∧ env 1 = .ptr op 0 ∧ env 25 = .own ho 0 cs.length ∧ env 26 = .int .i64 bs.length ∧ env 27 = .int .i64 i ∧ B = A.set h (.irow T_uint8 .u8 (ints (orB bs cs i)))) (fun i => bs.length - i) 0
    ⟨by omega, by simp, by simp, by simp, by simp [he'], by simp, (set_same hh).symm⟩ ?_
  rintro i env B ⟨hi, e0, e1, e25, e26, e27, rfl⟩
  simp -implicitDefEqProofs (disch := first | omega | simp) [q_Pfilter_Filter_Join_L8, q_Pfilter_Filter_Join_4, q_Pfilter_Filter_Join_8, q_Pfilter_Filter_Join_9, e0, e1, e25, e26, e27, hA, hO, hfh, hoh]
  refine ⟨fun hil => ?_, fun hil => ?_⟩
  · have hic : i < cs.length := by omega
    have l1 := orB_length bs cs i
    have hib : i < (orB bs cs i).length := by omega
    have b1 := getD_byte (orB_bytes hb hc i) i
    have b2 := getD_byte hc i
    rw [List.getElem?_eq_getElem hib, Option.getD_some] at b1
    rw [List.getElem?_eq_getElem hic, Option.getD_some] at b2
    have o1 : bOr .u8 (((orB bs cs i)[i] : Nat) : Int) ((cs[i] : Nat) : Int) = (((orB bs cs i)[i] ||| cs[i] : Nat) : Int) := bOr_nat rfl b1 b2
    have o2 : (orB bs cs i).set i ((orB bs cs i)[i] ||| cs[i]) = orB bs cs (i + 1) := by rw [orB, List.getElem?_eq_getElem hib, List.getElem?_eq_getElem hic, Option.getD_some, Option.getD_some]
    have hnh : ¬ ho = h := Ne.symm hne
    simp -implicitDefEqProofs (disch := first | omega | simp) [q_Pfilter_Filter_Join_5, q_Pfilter_Filter_Join_6, q_Pfilter_Filter_Join_7, e0, e1, e25, e26, e27, hA, hO, hfh, hoh, hnh, hho, hic, hib, hil, o1, o2, wrap_i64]
    exact lp_next (i + 1) ⟨by omega, by simp [e0], by simp [e1], by simp [e25], by simp [e26], by simp, rfl⟩ (by omega)
  · have : i = bs.length := by omega
    subst this
    have w : IntKind.i64.wrap (n + m) = n + m := wrap_i64 (by omega)
    refine hR _ _ _ ?_
    rw [w]
    simp -implicitDefEqProofs [a_Pfilter_Filter_Join, fpost, outOf]
    exact ⟨_, Sub_refl _, hK⟩
end
/-- The bytes behind addresses that are put. -/
def putL (bs : List Nat) (l : List (List Nat)) : List Nat := l.foldl putA bs
@[simp] theorem putA_length (bs a : List Nat) : (putA bs a).length = bs.length := putB_length bs a 4
theorem putA_bytes {bs : List Nat} (hb : Bytes bs) (a : List Nat) : Bytes (putA bs a) := putB_bytes hb a 4
@[simp] theorem putL_length : ∀ (l : List (List Nat)) (bs : List Nat), (putL bs l).length = bs.length
  | [], bs => rfl
  | a :: l, bs => by rw [putL, List.foldl_cons]; exact (putL_length l _).trans (putA_length bs a)
theorem putL_bytes : ∀ (l : List (List Nat)) {bs : List Nat}, Bytes bs → Bytes (putL bs l)
  | [], bs, h => h
  | a :: l, bs, h => by rw [putL, List.foldl_cons]; exact putL_bytes l (putA_bytes h a)
theorem putL_take (bs : List Nat) {l : List (List Nat)} {i : Nat} (h : i < l.length) : putL bs (l.take (i + 1)) = putA (putL bs (l.take i)) l[i] := by
  rw [List.take_succ_eq_append_getElem h]; simp only [putL, List.foldl_append, List.foldl_cons, List.foldl_nil]
/-- What an address is. -/
def Adr (a : List Nat) : Prop := Bytes a ∧ a.length = 32
def adrs (l : List (List Nat)) : List AV := l.map adrV
@[simp] theorem adrs_length (l : List (List Nat)) : (adrs l).length = l.length := by simp [adrs]
@[simp] theorem adrs_get (l : List (List Nat)) (i : Nat) (h : i < (adrs l).length) : (adrs l)[i] = adrV (l[i]'(by simpa using h)) := by simp [adrs]
theorem bytes_wf {zs : List Int} (h : ∀ n ∈ zs, (Lit.int .u8 n).wf = true) : ∃ a, ints a = zs ∧ Bytes a := by
  obtain ⟨l, h1, h2⟩ := bytes_in h
  exact ⟨l, h1.symm, h2⟩
theorem adrs_in : ∀ {l : List AV}, (∀ x ∈ l, ∃ z, x = .iarr .u8 32 z ∧ z.length = 32 ∧ ∀ n ∈ z, (Lit.int .u8 n).wf = true) → ∃ m, l = adrs m ∧ ∀ a ∈ m, Adr a
  | [], _ => ⟨[], rfl, by simp⟩
  | v :: l, h => by
    obtain ⟨m, h1, h2⟩ := adrs_in (l := l) fun x hx => h x (by simp [hx])
    obtain ⟨zs, rfl, h4, h5⟩ := h v (by simp)
    obtain ⟨a, rfl, ha⟩ := bytes_wf h5
    refine ⟨a :: m, by rw [h1]; rfl, fun x hx => ?_⟩
    rcases List.mem_cons.1 hx with rfl | hx
    · exact ⟨ha, by simpa using h4⟩
    · exact h2 x hx
theorem w_filter_Of {nb : Nat} (h1 : 0 < nb) (h2 : nb ≤ 2048) {l : List (List Nat)} (hl : ∀ a ∈ l, Adr a) (hll : l.length < 2 ^ 32) :
    SimX Try.prog F_filter_Of [.int .i64 (8 * nb : Int), .dsl 32 (adrs l)] H0 fun o A' => ∃ h f, f ≠ h ∧ o = .ret (.tuple [.ptr f 0, .int .i64 0]) ∧ A' = ((H0.set h (.irow T_uint8 .u8 (ints (putL (zer nb) l)))).set f (.var T_filter_Filter [.own h 0 nb, .int .i64 l.length])) := by
  refine i_filter_Of (by simp) fun R hR => ?_
  simp -implicitDefEqProofs [a_filter_Of, q_filter_Of_0, q_filter_Of_1]
  refine w_filter_New h1 h2 fun h f _ _ hfh => ?_
  simp -implicitDefEqProofs [q_filter_Of_2, q_filter_Of_4]
  refine X_lp (fun (i : Nat) env B => i ≤ l.length ∧ env 6 = .ptr f 0 ∧ env 18 = .dsl 32 (adrs l) ∧ env 19 = .int .i64 l.length ∧ env 20 = .int .i64 i ∧ B = (H0.set h (.irow T_uint8 .u8 (ints (putL (zer nb) (l.take i))))).set f (.var T_filter_Filter [.own h 0 nb, .int .i64 i])) (fun i => l.length - i) 0
    ⟨by omega, by simp, by simp, by simp, by simp, rfl⟩ ?_
  rintro i env B ⟨hi, e6, e18, e19, e20, rfl⟩
  simp -implicitDefEqProofs (disch := first | omega | simp) [q_filter_Of_L9, q_filter_Of_5, q_filter_Of_9, e6, e18, e19, e20]
  refine ⟨fun hil => ?_, fun hil => ?_⟩
  · obtain ⟨ha, hal⟩ := hl _ (List.getElem_mem hil)
    simp -implicitDefEqProofs (disch := first | omega | simp) [q_filter_Of_6, q_filter_Of_7, q_filter_Of_8, e6, e18, e19, e20, hil, adrV]
    intro g hgf hfg hgh hhg
    refine w_filter_Put (h := h) (t := T_filter_Filter) (n := i) (bs := putL (zer nb) (l.take i)) (putL_bytes _ (zer_bytes nb)) (by simpa using h1) (by simp; omega) (by omega) ha hal (by simp [hfg]) (by simp [hhg, Ne.symm hfh]) ?_
    simp -implicitDefEqProofs (disch := first | omega | simp) [e20, wrap_i64]
    refine lp_nextS (i + 1) ((H0.set h (.irow T_uint8 .u8 (ints (putL (zer nb) (l.take (i + 1)))))).set f (.var T_filter_Filter [.own h 0 nb, .int .i64 (i + 1 : Nat)])) ?_ ⟨by omega, by simp [e6], by simp [e18], by simp [e19], by simp, rfl⟩ (by omega)
    rw [set_swap _ _ _ hgh, set_swap _ _ _ hfh, set_set, set_swap _ _ _ hgf, set_set, putL_take _ hil]
    exact sub_none (by simp [hgf, hgh])
  · have : i = l.length := by omega
    subst this
    refine hR _ _ _ ⟨_, Sub_refl _, h, f, hfh, rfl, ?_⟩
    rw [List.take_length]
end Go.Proofs.Ytjbiekcldkjgjaa
