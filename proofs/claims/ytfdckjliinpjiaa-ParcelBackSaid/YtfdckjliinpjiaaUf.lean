/- The walk of parcel.Get. -/
import Derived.Test.YtfdckjliinpjiaaUe
namespace Go.Proofs.Ytfdckjliinpjiaa
open Go AVL
attribute [-simp] AV.isAgg aappI aapp alen shp good comps
set_option linter.unusedVariables false
set_option linter.unusedSimpArgs false
set_option maxRecDepth 8000

def eyeC (l : List Nat) : Cont := .var T_parcel_eye [.isl .u8 (ints l)]
section
variable {A : Heap} {K Kp : AV → Heap → Prop} {g : Nat} {l : List Nat}
theorem w_eye_take (hA : A g = some (eyeC l)) {n : Nat} (hn : n < 2 ^ 62) (hk : ∀ x r, takeD n l = some (x, r) → K (.isl .u8 (ints x)) (A.set g (eyeC r))) (hp : takeD n l = none → Kp (faultV 3) A) :
    SimX Try.prog F_Pparcel_eye_take [.ptr g 0, .int .i64 n] A (outK K Kp) := by
  refine j_Pparcel_eye_take (by simp) ?_
  unfold eyeC at hA hk
  by_cases h : l.length < n
  · have h' : (l.length : Int) < n := by omega
    simp -implicitDefEqProofs [a_Pparcel_eye_take, q_Pparcel_eye_take_0, q_Pparcel_eye_take_1, q_Pparcel_eye_take_2, hA, h, h']
    refine throw_call ?_
    simp -implicitDefEqProofs
    exact hp (by simp [takeD, h])
  · have h' : ¬ (l.length : Int) < n := by omega
    have hd : (l.drop n).take (l.length - n) = l.drop n := List.take_of_length_le (by simp)
    simp -implicitDefEqProofs [a_Pparcel_eye_take, q_Pparcel_eye_take_0, q_Pparcel_eye_take_1, q_Pparcel_eye_take_3, q_Pparcel_eye_take_4, q_Pparcel_eye_take_5, hA, h, h', hd, outOf]
    exact ⟨by omega, hk _ _ (by simp [takeD, h])⟩
theorem w_eye_num (hA : A g = some (eyeC l)) (hl : Bytes l) {n : Nat} (hn : n ≤ 8) (hk : ∀ m r, numD n l = some (m, r) → K (.int .u64 m) (A.set g (eyeC r))) (hp : numD n l = none → Kp (faultV 3) A) :
    SimX Try.prog F_Pparcel_eye_num [.ptr g 0, .int .i64 n] A (outK K Kp) := by
  refine j_Pparcel_eye_num (by simp) ?_
  simp -implicitDefEqProofs [a_Pparcel_eye_num, q_Pparcel_eye_num_0, q_Pparcel_eye_num_1]
  refine w_eye_take hA (by omega) (fun x r hx => ?_) fun hx => ?_
  · obtain ⟨h1, h2⟩ := takeD_iff.1 hx
    simp -implicitDefEqProofs
    refine (w_word_Get x (fun y hy => hl y (by rw [h2]; simp [hy])) (by omega)).call (.cons (.refl _) rfl .nil) rfl ?_
    simp -implicitDefEqProofs [outOf]
    exact hk _ _ (by simp [numD, hx])
  · simp -implicitDefEqProofs
    exact hp (by simp [numD, hx])
theorem numD_lt {n : Nat} {b r : List Nat} {x : Nat} (hb : Bytes b) (h : numD n b = some (x, r)) : x < 256 ^ n := ((numD_iff hb).1 h).1
theorem numD_bytes {n : Nat} {b r : List Nat} {x : Nat} (hb : Bytes b) (h : numD n b = some (x, r)) : Bytes r := by
  obtain ⟨_, h2⟩ := (numD_iff hb).1 h
  exact fun y hy => hb y (by rw [h2]; simp [hy])
theorem takeD_bytes {n : Nat} {b r x : List Nat} (hb : Bytes b) (h : takeD n b = some (x, r)) : Bytes x ∧ Bytes r := by
  obtain ⟨_, h2⟩ := takeD_iff.1 h
  exact ⟨fun y hy => hb y (by rw [h2]; simp [hy]), fun y hy => hb y (by rw [h2]; simp [hy])⟩
theorem textD_bytes {m : Nat} (hm : m < 65536) {b r x : List Nat} (hb : Bytes b) (h : textD m b = some (x, r)) : Bytes x ∧ Bytes r := by
  obtain ⟨_, h2⟩ := (textD_iff hm hb).1 h
  exact ⟨fun y hy => hb y (by rw [h2]; simp [tx, hy]), fun y hy => hb y (by rw [h2]; simp [hy])⟩
theorem w_eye_text (hA : A g = some (eyeC l)) (hl : Bytes l) {most : Nat} (hm : most < 60000) (hk : ∀ x r, textD most l = some (x, r) → K (.str (sN x)) (A.set g (eyeC r))) (hp : textD most l = none → ∀ l', Kp (faultV 3) (A.set g (eyeC l'))) :
    SimX Try.prog F_Pparcel_eye_text [.ptr g 0, .int .i64 most] A (outK K Kp) := by
  refine j_Pparcel_eye_text (by simp) ?_
  simp -implicitDefEqProofs [a_Pparcel_eye_text, q_Pparcel_eye_text_0, q_Pparcel_eye_text_1]
  have hAe : A.set g (eyeC l) = A := set_same hA
  refine w_eye_num (n := 2) hA hl (by decide) (fun m r hx => ?_) fun hx => ?_
  · have hm2 := numD_lt hl hx
    have hr := numD_bytes hl hx
    have wi : IntKind.i64.wrap (m : Int) = (m : Int) := wrap_i64 (by omega)
    by_cases h : most < m
    · have h' : (most : Int) < m := by omega
      simp -implicitDefEqProofs [q_Pparcel_eye_text_2, q_Pparcel_eye_text_3, wi, h, h']
      refine throw_call ?_
      simp -implicitDefEqProofs
      exact hp (by simp [textD, hx, h]) r
    · have h' : ¬ (most : Int) < m := by omega
      simp -implicitDefEqProofs [q_Pparcel_eye_text_2, q_Pparcel_eye_text_4, wi, h, h']
      refine w_eye_take (l := r) set_eq' (by omega) (fun x r2 hx2 => ?_) fun hx2 => ?_
      · have hxb := (takeD_bytes hr hx2).1
        simp -implicitDefEqProofs [outOf]
        rw [strOf_ints]
        exact hk _ _ (by simp [textD, hx, h, hx2])
      · simp -implicitDefEqProofs
        exact hp (by simp [textD, hx, h, hx2]) r
  · simp -implicitDefEqProofs
    have := hp (by simp [textD, hx]) l
    rwa [hAe] at this
theorem w_eye_addr (hA : A g = some (eyeC l)) (hk : ∀ x r, takeD 32 l = some (x, r) → ∀ B', A.set g (eyeC r) = B' → K (.iarr .u8 32 (ints x)) B') (hp : takeD 32 l = none → Kp (faultV 3) A) : SimX Try.prog F_Pparcel_eye_addr [.ptr g 0] A (outK K Kp) := by
  refine i_Pparcel_eye_addr (by simp) fun R hR => ?_
  simp -implicitDefEqProofs [a_Pparcel_eye_addr, q_Pparcel_eye_addr_0, q_Pparcel_eye_addr_1, -List.reduceReplicate]
  intro g2 h2
  have n2 := fresh_ne hA h2
  refine w_eye_take (g := g) (l := l) (by simp [n2, hA]) (by decide) (fun x r hx => ?_) fun hx => ?_
  · obtain ⟨h1, _⟩ := takeD_iff.1 hx
    have ht : (ints x).take 32 = ints x := List.take_of_length_le (by simp [h1])
    simp -implicitDefEqProofs [h1, ht, n2, Ne.symm n2, -List.reduceReplicate]
    refine hR _ _ _ ?_
    simp -implicitDefEqProofs [fpost, a_Pparcel_eye_addr, outOf, -List.reduceReplicate]
    refine ⟨_, ?_, hk x r hx _ rfl⟩
    exact sub_set' (set_sub (sub_none h2)) (by simp [n2, Ne.symm n2, h2])
  · simp -implicitDefEqProofs
    refine hR _ _ _ ?_
    simp -implicitDefEqProofs [fpost]
    exact ⟨A, sub_none h2, hp hx⟩
end
end Go.Proofs.Ytfdckjliinpjiaa
