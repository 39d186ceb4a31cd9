/- The walks of the law's light, Filled, do. -/
import Derived.Test.YtjbiekcldkjgjaaKf
namespace Go.Proofs.Ytjbiekcldkjgjaa
open Go AVL
attribute [-simp] AV.isAgg aappI aapp alen shp good comps
set_option linter.unusedVariables false
set_option linter.unusedSimpArgs false
set_option maxRecDepth 8000

structure DOpr where
  kind : Int
  at' : Int
  b : Nat
  keep : List Bool
def dopV (o : DOpr) : AV := .agg [.int .i64 o.kind, .int .i64 o.at', .int .u8 (o.b : Int), .dsl 1 (bls o.keep)]
def dops (l : List DOpr) : List AV := l.map dopV
@[simp] theorem dops_length (l : List DOpr) : (dops l).length = l.length := by simp [dops]
theorem dops_getE {l : List DOpr} {i : Nat} (h : i < (dops l).length) : (dops l)[i] = dopV (l[i]'(by simpa using h)) := by simp [dops]
def lightB (l : List DOpr) : Bool := decide (l.length ≤ 80) && l.all fun o => decide (o.keep.length ≤ 100)
theorem all_take {α : Type} {p : α → Bool} {l : List α} {i : Nat} (h : i < l.length) : (l.take (i + 1)).all p = ((l.take i).all p && p l[i]) := by
  rw [List.take_succ_eq_append_getElem h, List.all_append]; simp
theorem w_law06_light {l : List DOpr} : Gives Try.prog F_law06_light [.dsl 4 (dops l)] (.bool (lightB l)) := by
  refine v_law06_light (by simp) ?_
  by_cases h80 : l.length ≤ 80
  · have c80 : ¬ 80 < (l.length : Int) := by omega
    simp -implicitDefEqProofs [a_law06_light, q_law06_light_0, q_law06_light_1, q_law06_light_3, c80]
    refine X_lp (fun (i : Nat) env X => i ≤ l.length ∧ env 0 = .dsl 4 (dops l) ∧ env 3 = .int .i64 i ∧ ∀ o ∈ l.take i, o.keep.length ≤ 100) (fun i => l.length - i) 0
      ⟨by omega, by simp, by simp, by simp⟩ ?_
    rintro i env X ⟨hi, e0, e3, ha⟩
    by_cases hil : i < l.length
    · have hil' : (i : Int) < l.length := by omega
      have wi : IntKind.i64.wrap ((i : Int) + 1) = (i : Int) + 1 := wrap_i64 (by omega)
      by_cases hk : l[i].keep.length ≤ 100
      · have hk' : ¬ 100 < (l[i].keep.length : Int) := by omega
        simp -implicitDefEqProofs [q_law06_light_L8, q_law06_light_4, q_law06_light_5, q_law06_light_7, e0, e3, hil, hil', dops_getE, dopV, hk', wi]
        exact lp_next (i + 1) ⟨by omega, by simp [e0], by simp, fun o ho => by
          rw [List.take_succ_eq_append_getElem hil] at ho
          rcases List.mem_append.1 ho with h1 | h1
          · exact ha o h1
          · simp only [List.mem_singleton] at h1; subst h1; exact hk⟩ (by omega)
      · have hk' : 100 < (l[i].keep.length : Int) := by omega
        have hlb : lightB l = false := by
          unfold lightB
          rw [Bool.and_eq_false_iff]; right
          rw [List.all_eq_false]
          exact ⟨_, List.getElem_mem hil, by simpa using hk⟩
        simp -implicitDefEqProofs [q_law06_light_L8, q_law06_light_4, q_law06_light_5, q_law06_light_6, e0, e3, hil, hil', dops_getE, dopV, hk', outOf, hlb]
    · have hie : i = l.length := by omega
      subst hie
      rw [List.take_length] at ha
      have hlb : lightB l = true := by unfold lightB; simpa [h80] using ha
      simp -implicitDefEqProofs [q_law06_light_L8, q_law06_light_4, q_law06_light_8, e0, e3, outOf, hlb]
  · have c80 : 80 < (l.length : Int) := by omega
    have hlb : lightB l = false := by unfold lightB; simp [h80]
    simp -implicitDefEqProofs [a_law06_light, q_law06_light_0, q_law06_light_1, q_law06_light_2, c80, outOf, hlb]
def filled (b : Nat) : List Nat := List.replicate 256 b
theorem filled_sec {b : Nat} (h : b < 256) : Sec (filled b) := ⟨by simp [filled], fun x hx => by rw [List.eq_of_mem_replicate hx]; exact h⟩
theorem filled0 : filled 0 = z256 := rfl
theorem fill_step {b i : Nat} (h : i < 256) : (List.replicate i b ++ List.replicate (256 - i) 0).set i b = List.replicate (i + 1) b ++ List.replicate (256 - (i + 1)) 0 := by
  apply List.ext_getElem (by simp; omega)
  intro j h1 h2
  simp only [List.getElem_set, List.getElem_append, List.length_replicate, List.getElem_replicate]
  by_cases e1 : i = j
  · subst e1; simp
  · by_cases e2 : j < i
    · rw [if_neg e1, dif_pos e2, dif_pos (by omega)]
    · rw [if_neg e1, dif_neg e2, dif_neg (by omega)]
theorem w_law06_Filled {b : Nat} (hb : b < 256) : Gives Try.prog F_law06_Filled [.int .u8 (b : Int)] (secV (filled b)) := by
  refine v_law06_Filled (by simp) ?_
  simp -implicitDefEqProofs [a_law06_Filled, q_law06_Filled_0, q_law06_Filled_1, q_law06_Filled_2, -List.reduceReplicate]
  intro g2 g3 n3 n3'
  refine X_lp (fun (i : Nat) env X => i ≤ 256 ∧ env 0 = .int .u8 b ∧ env 2 = .ptr g2 0 ∧ env 3 = .ptr g3 0 ∧ env 4 = .int .i64 i ∧ X g2 = some (.var 78 [.iarr .u8 256 zsec]) ∧ X g3 = some (.var 78 [.iarr .u8 256 (ints (List.replicate i b ++ List.replicate (256 - i) 0))])) (fun i => 256 - i) 0
    ⟨by omega, by simp, by simp, by simp, by simp, by simp [n3, n3', zsec, -List.reduceReplicate], by simp [ints, -List.reduceReplicate]⟩ ?_
  rintro i env X ⟨hi, e0, e2, e3, e4, f2, f3⟩
  by_cases hil : i < 256
  · have hil' : (i : Int) < 256 := by omega
    have wi : IntKind.i64.wrap ((i : Int) + 1) = (i : Int) + 1 := wrap_i64 (by omega)
    obtain ⟨L, hL⟩ : ∃ L, List.replicate i b ++ List.replicate (256 - i) 0 = L := ⟨_, rfl⟩
    have hs := fill_step (b := b) hil
    rw [hL] at f3 hs
    have hLl : L.length = 256 := by rw [← hL]; simp; omega
    simp -implicitDefEqProofs [q_law06_Filled_L6, q_law06_Filled_3, q_law06_Filled_4, q_law06_Filled_5, e0, e2, e3, e4, f2, f3, hil, hil', wi, hLl, -List.reduceReplicate]
    refine lp_next (i + 1) ⟨by omega, by simp [e0], by simp [e2], by simp [e3], by simp, by simp [n3, n3', f2], ?_⟩ (by omega)
    rw [← hs]; simp
  · have hie : i = 256 := by omega
    subst hie
    have e : ints (List.replicate 256 b ++ List.replicate (256 - 256) 0) = ints (filled b) := by simp [filled, -List.reduceReplicate]
    rw [e] at f3
    simp -implicitDefEqProofs [q_law06_Filled_L6, q_law06_Filled_3, q_law06_Filled_6, e2, e3, e4, f2, f3, outOf, secV, -List.reduceReplicate]
def doD (D : Dsk) (o : DOpr) : Dsk := if o.kind = 0 ∨ o.kind = 1 then (if D.inside o.at' then D.write o.at'.toNat (filled o.b) else D) else if o.kind = 3 then D.flush else if o.kind = 4 then D.crash o.keep else if o.kind = 5 then D.setFuse o.at' else D
section
variable {A B : Heap} {g : Nat} {rv : AV} {D : Dsk} {K Kp : AV → Heap → Prop}
theorem w_law06_do (h : DskAt A g D B) (hr : RefIn A rv D) (hst : D.steps < 2 ^ 62) (hwl : D.wait.length < 2 ^ 32) {o : DOpr} (hb : o.b < 256) (hat : o.at' < 9223372036854775808)
    (hk : ∀ A' rv' B', A.Sub A' → DskAt A' g (doD D o) B' → RefIn A' rv' (doD D o) → K (.tuple [rv', .bool true]) B') : SimX Try.prog F_law06_do [.ptr g 0, rv, dopV o] B (outK K Kp) := by
  have hA := h.sub
  have hwf := h.wf
  have hr0 := hr
  obtain ⟨gl, wv, rfl, _, hwv⟩ := hr
  have hw := hwv.scl
  refine j_law06_do (by simp) ?_
  simp -implicitDefEqProofs [a_law06_do, q_law06_do_0, dopV, hw.size, hw.shp, hw.agg, hw.good, hw.comps, hw.st]
  intro g4 h4 g5 n5 n5' h5 g6 n6 n6' m6 m6' h6
  obtain ⟨c4, hc4⟩ : ∃ c, Cont.var 67 [.own gl 0 D.last.length, wv, .int .i64 D.steps, .int .i64 D.fuse, .bool D.down] = c := ⟨_, rfl⟩
  obtain ⟨c5, hc5⟩ : ∃ c, Cont.var 74 [.int .i64 o.kind, .int .i64 o.at', .int .u8 (o.b : Int), .dsl 1 (bls o.keep)] = c := ⟨_, rfl⟩
  obtain ⟨c6, hc6⟩ : ∃ c, Cont.var 67 [.nilS, .nilS, .int .i64 0, .int .i64 0, .bool false] = c := ⟨_, rfl⟩
  rw [hc4, hc5, hc6]
  have hb5 : (B.set g4 c4) g5 = none := by simp [n5, n5', h5]
  have hb6 : ((B.set g4 c4).set g5 c5) g6 = none := by simp [n6, n6', m6, m6', h6]
  have hd1 := ((h.rebase (c := c4) h4).rebase (c := c5) hb5).rebase (c := c6) hb6
  have hAA : A.Sub (((A.set g4 c4).set g5 c5).set g6 c6) := by
    refine sub_new (sub_new (sub_none (sub_noneL hA h4)) ?_) ?_
    · exact sub_noneL (set_sub hA) hb5
    · exact sub_noneL (set_sub (set_sub hA)) hb6
  have hA6 : A g6 = none := sub_noneL hA h6
  have a4 : (((A.set g4 c4).set g5 c5).set g6 c6) g4 = some c4 := by simp [m6', n5']
  have a5 : (((A.set g4 c4).set g5 c5).set g6 c6) g5 = some c5 := by simp [n6']
  have a6 : (((A.set g4 c4).set g5 c5).set g6 c6) g6 = some c6 := by simp
  obtain ⟨A1, hA1⟩ : ∃ X, ((A.set g4 c4).set g5 c5).set g6 c6 = X := ⟨_, rfl⟩
  obtain ⟨B1, hB1⟩ : ∃ X, ((B.set g4 c4).set g5 c5).set g6 c6 = X := ⟨_, rfl⟩
  rw [hA1] at hd1 hAA a4 a5 a6
  rw [hB1] at hd1
  rw [hB1]
  have hs1 := hd1.sub
  have b4 := hs1 _ _ a4
  have b5 := hs1 _ _ a5
  have b6 := hs1 _ _ a6
  have hr1 := hr0.mono hAA
  subst hc4 hc5 hc6
  clear hA1 hB1 hb5 hb6
  have hout : ∀ {A' : Heap} {c : Cont}, A1.Sub A' → A.Sub (A'.set g6 c) := fun hs => sub_set' (sub_tr hAA hs) hA6
  by_cases k01 : o.kind = 0 ∨ o.kind = 1
  · have hdo : doD D o = if D.inside o.at' then D.write o.at'.toNat (filled o.b) else D := by unfold doD; rw [if_pos k01]
    rw [hdo] at hk
    rcases k01 with k0 | k0
    all_goals
      simp -implicitDefEqProofs [q_law06_do_1, q_law06_do_2, q_law06_do_3, k0, b5, q_law06_do_4, b4, hw.size, hw.shp, hw.agg, hw.good, hw.comps, hw.st]
      refine (w_law06_Filled hb).call (.cons (.refl _) rfl .nil) rfl ?_
      simp -implicitDefEqProofs [Sub_refl, secV]
      refine w_ref06_Put hr1 hwf hs1 hst hwl fun rv' C hC hrC => ?_
      have hd2 := hd1.plus hC
      have hAC : A1.Sub (A1.plus B1 C) := sub_plus hs1
      obtain ⟨A2, hA2⟩ : ∃ X, A1.plus B1 C = X := ⟨_, rfl⟩
      rw [hA2] at hrC hd2 hAC
      have hrC' := hrC
      obtain ⟨gl', wv', rfl, _, hwv'⟩ := hrC
      have hw' := hwv'.scl
      obtain ⟨D', hD'⟩ : ∃ X, (if D.inside o.at' then D.write o.at'.toNat (filled o.b) else D) = X := ⟨_, rfl⟩
      rw [hD'] at hrC' hk ⊢
      simp -implicitDefEqProofs [hw'.size, hw'.shp, hw'.agg, hw'.good, hw'.comps, hw'.st]
      intro g8 h8
      have c5 := hC _ _ b5
      have y5 := fresh_ne c5 h8
      simp -implicitDefEqProofs [q_law06_do_5, y5, c5, hw'.size, hw'.shp, hw'.agg, hw'.good, hw'.comps, hw'.st]
      refine (w_law06_Filled hb).call (.cons (.refl _) rfl .nil) rfl ?_
      simp -implicitDefEqProofs [Sub_refl, secV]
      refine w_disk_Write (hd2.rebase h8) hst hwl (filled_sec hb) fun C3 hC3 => ?_
      rw [hD'] at hC3
      have s3 := hC3.sub
      have z8 := s3 g8 _ set_eq'
      have h82 : A2 g8 = none := sub_noneL hd2.sub h8
      have z6 := s3 g6 _ (by rw [Heap.set_ne _ _ (fresh_ne (hAC _ _ a6) h82)]; exact hAC _ _ a6)
      simp -implicitDefEqProofs [z8, z6, hw'.size, hw'.shp, hw'.agg, hw'.good, hw'.comps, hw'.st, outOf]
      have h3 := hC3.poke (c := .var 67 [.own gl' 0 D'.last.length, wv', .int .i64 D'.steps, .int .i64 D'.fuse, .bool D'.down]) (by rw [Heap.set_ne _ _ (fresh_ne (hAC _ _ a6) h82)]; exact hAC _ _ a6)
      exact hk _ _ _ (hout (sub_tr hAC (sub_none h82))) h3 ((hrC'.mono (sub_none h82)).poke (by rw [Heap.set_ne _ _ (fresh_ne (hAC _ _ a6) h82)]; exact hAC _ _ a6))
  · have k0 : ¬ o.kind = 0 := fun e => k01 (.inl e)
    have k1 : ¬ o.kind = 1 := fun e => k01 (.inr e)
    by_cases k2 : o.kind = 2
    · have hdo : doD D o = D := by unfold doD; simp [k2]
      rw [hdo] at hk
      simp -implicitDefEqProofs [q_law06_do_1, q_law06_do_2, q_law06_do_3, q_law06_do_6, q_law06_do_7, k2, b5, b4, hw.size, hw.shp, hw.agg, hw.good, hw.comps, hw.st]
      refine w_ref06_Read hr1 hwf hwl hs1 fun C hC => ?_
      simp -implicitDefEqProofs [secV, -List.reduceReplicate]
      intro g10 h10
      have c5 := hC _ _ b5
      have y5 := fresh_ne c5 h10
      simp -implicitDefEqProofs [q_law06_do_8, c5, y5, -List.reduceReplicate]
      have hBC := sub_new (c := .var 78 [.iarr .u8 256 (ints (D.rd o.at').1)]) hC h10
      refine w_disk_Read (hd1.mono hBC) fun C2 hC2 => ?_
      simp -implicitDefEqProofs [secV, -List.reduceReplicate]
      intro g12 h12
      have hBC2 := sub_new (c := .var 78 [.iarr .u8 256 (ints (D.rd o.at').1)]) (sub_tr hBC hC2) h12
      have d10 := hC2 g10 _ set_eq'
      have y10 := fresh_ne d10 h12
      have d4 := hBC2 _ _ b4
      have d6 := hBC2 _ _ b6
      have hsec := D.rd_sec hwf o.at'
      have heq := secV_eq hsec hsec
      rw [beq_self_eq_true] at heq
      have n46 : g4 ≠ g12 := fresh_ne ((sub_tr hBC hC2) _ _ b4) h12
      have n66 : g6 ≠ g12 := fresh_ne ((sub_tr hBC hC2) _ _ b6) h12
      have e4 := (sub_tr hBC hC2) _ _ b4
      have e6 := (sub_tr hBC hC2) _ _ b6
      simp -implicitDefEqProofs [q_law06_do_9, d10, y10, e4, e6, n46, n66, heq, hw.size, hw.shp, hw.agg, hw.good, hw.comps, hw.st, outOf, -List.reduceReplicate]
      exact hk _ _ _ (hout (Sub_refl _)) ((hd1.mono hBC2).poke a6) (hr1.poke a6)
    · by_cases k3 : o.kind = 3
      · have hdo : doD D o = D.flush := by unfold doD; simp [k3]
        rw [hdo] at hk
        simp -implicitDefEqProofs [q_law06_do_1, q_law06_do_2, q_law06_do_3, q_law06_do_6, q_law06_do_10, q_law06_do_11, k3, b5, b4, hw.size, hw.shp, hw.agg, hw.good, hw.comps, hw.st]
        refine w_ref06_Flush hr1 hwf hs1 hst hwl fun rv' C hC hrC => ?_
        have hd2 := hd1.plus hC
        have hAC : A1.Sub (A1.plus B1 C) := sub_plus hs1
        obtain ⟨A2, hA2⟩ : ∃ X, A1.plus B1 C = X := ⟨_, rfl⟩
        rw [hA2] at hrC hd2 hAC
        have hrC' := hrC
        obtain ⟨gl', wv', rfl, _, hwv'⟩ := hrC
        have hw' := hwv'.scl
        simp -implicitDefEqProofs [hw'.size, hw'.shp, hw'.agg, hw'.good, hw'.comps, hw'.st]
        intro g14 h14
        simp -implicitDefEqProofs [q_law06_do_12, hw'.size, hw'.shp, hw'.agg, hw'.good, hw'.comps, hw'.st]
        refine w_disk_Flush (hd2.rebase h14) hst hwl fun C3 hC3 => ?_
        have s3 := hC3.sub
        have h142 : A2 g14 = none := sub_noneL hd2.sub h14
        have z8 := s3 g14 _ set_eq'
        have y6 : g6 ≠ g14 := fresh_ne (hAC _ _ a6) h142
        have z6 := s3 g6 _ (by rw [Heap.set_ne _ _ y6]; exact hAC _ _ a6)
        simp -implicitDefEqProofs [z8, z6, hw'.size, hw'.shp, hw'.agg, hw'.good, hw'.comps, hw'.st, outOf]
        exact hk _ _ _ (hout (sub_tr hAC (sub_none h142))) (hC3.poke (by rw [Heap.set_ne _ _ y6]; exact hAC _ _ a6)) ((hrC'.mono (sub_none h142)).poke (by rw [Heap.set_ne _ _ y6]; exact hAC _ _ a6))
      · by_cases k4 : o.kind = 4
        · have hdo : doD D o = D.crash o.keep := by unfold doD; simp [k4]
          rw [hdo] at hk
          simp -implicitDefEqProofs [q_law06_do_1, q_law06_do_2, q_law06_do_3, q_law06_do_6, q_law06_do_10, q_law06_do_13, q_law06_do_14, k4, b5, b4, hw.size, hw.shp, hw.agg, hw.good, hw.comps, hw.st]
          refine w_ref06_Crash hr1 hwf hs1 hwl (fun C hC => .refl _) rfl fun rv' C hC hrC => ?_
          have hd2 := hd1.plus hC
          have hAC : A1.Sub (A1.plus B1 C) := sub_plus hs1
          obtain ⟨A2, hA2⟩ : ∃ X, A1.plus B1 C = X := ⟨_, rfl⟩
          rw [hA2] at hrC hd2 hAC
          have hrC' := hrC
          obtain ⟨gl', wv', rfl, _, hwv'⟩ := hrC
          have hw' := hwv'.scl
          have c5 := hC _ _ b5
          simp -implicitDefEqProofs [hw'.size, hw'.shp, hw'.agg, hw'.good, hw'.comps, hw'.st]
          intro g14 h14
          have y5 := fresh_ne c5 h14
          simp -implicitDefEqProofs [q_law06_do_15, c5, y5, hw'.size, hw'.shp, hw'.agg, hw'.good, hw'.comps, hw'.st]
          refine w_disk_Crash (hd2.rebase h14) hwl (.inl rfl) fun C3 hC3 => ?_
          have s3 := hC3.sub
          have h142 : A2 g14 = none := sub_noneL hd2.sub h14
          have z8 := s3 g14 _ set_eq'
          have y6 : g6 ≠ g14 := fresh_ne (hAC _ _ a6) h142
          have z6 := s3 g6 _ (by rw [Heap.set_ne _ _ y6]; exact hAC _ _ a6)
          simp -implicitDefEqProofs [z8, z6, hw'.size, hw'.shp, hw'.agg, hw'.good, hw'.comps, hw'.st, outOf]
          exact hk _ _ _ (hout (sub_tr hAC (sub_none h142))) (hC3.poke (by rw [Heap.set_ne _ _ y6]; exact hAC _ _ a6)) ((hrC'.mono (sub_none h142)).poke (by rw [Heap.set_ne _ _ y6]; exact hAC _ _ a6))
        · by_cases k5 : o.kind = 5
          · have hdo : doD D o = D.setFuse o.at' := by unfold doD; simp [k5]
            rw [hdo] at hk
            simp -implicitDefEqProofs [q_law06_do_1, q_law06_do_2, q_law06_do_3, q_law06_do_6, q_law06_do_10, q_law06_do_13, q_law06_do_16, q_law06_do_17, k5, b5, b4, hw.size, hw.shp, hw.agg, hw.good, hw.comps, hw.st]
            refine w_disk_Fuse hd1 hat fun C3 hC3 => ?_
            have s3 := hC3.sub
            have z4 := s3 _ _ a4
            have z5 := s3 _ _ a5
            have z6 := s3 _ _ a6
            simp -implicitDefEqProofs [q_law06_do_18, z4, z5, hw.size, hw.shp, hw.agg, hw.good, hw.comps, hw.st]
            refine (w_ref06_Fuse (D := D) (gl := gl) (m := D.last.length) (n := o.at') hw).call (.cons (.refl _) rfl (.cons (.refl _) rfl .nil)) (by simp [AV.noF, AV.noFs, hw.noF, refC]) ?_
            simp -implicitDefEqProofs [refC, z6, hw.size, hw.shp, hw.agg, hw.good, hw.comps, hw.st, outOf]
            refine hk _ _ _ (hout (Sub_refl _)) (hC3.poke a6) (RefIn.poke ?_ a6)
            obtain ⟨gl2, wv2, e, r1, r2⟩ := hr1
            injection e with e; injection e with e1 e2; injection e2 with e2 e3; injection e1 with e1 _ _
            subst e1 e2
            exact ⟨gl, wv, rfl, r1, r2⟩
          · have hdo : doD D o = D := by unfold doD; simp [k0, k1, k3, k4, k5]
            rw [hdo] at hk
            simp -implicitDefEqProofs [q_law06_do_1, q_law06_do_2, q_law06_do_3, q_law06_do_6, q_law06_do_10, q_law06_do_13, q_law06_do_16, q_law06_do_19, k0, k1, k2, k3, k4, k5, b5, b4, b6, hw.size, hw.shp, hw.agg, hw.good, hw.comps, hw.st, outOf]
            exact hk _ _ _ (hout (Sub_refl _)) (hd1.poke a6) (hr1.poke a6)
end
end Go.Proofs.Ytjbiekcldkjgjaa
