/- The walks of the reference's Put, Flush, Crash, Read, SameImage. -/
import Derived.Test.YtjbiekcldkjgjaaKe
namespace Go.Proofs.Ytjbiekcldkjgjaa
open Go AVL
attribute [-simp] AV.isAgg aappI aapp alen shp good comps
set_option linter.unusedVariables false
set_option linter.unusedSimpArgs false
set_option maxRecDepth 8000

section
variable {A B : Heap} {rv : AV} {D : Dsk} {K Kp : AV → Heap → Prop}
theorem RefIn.plus0 (h : RefIn A rv D) (hA : A.Sub B) {B' : Heap} : RefIn (A.plus B B') rv D := h.mono (sub_plus hA)
theorem w_ref06_Flush (h : RefIn A rv D) (hwf : D.Wf) (hA : A.Sub B) (hst : D.steps < 2 ^ 62) (hwl : D.wait.length < 2 ^ 32) (hk : ∀ rv' B', B.Sub B' → RefIn (A.plus B B') rv' D.flush → K (.tuple [rv', .int .i64 (codeOf D.ok)]) B') : SimX Try.prog F_ref06_Flush [rv] B (outK K Kp) := by
  obtain ⟨gl, wv, rfl, hgl, hwv⟩ := h
  have hw := hwv.scl
  have hwB := hwv.mono hA
  refine j_ref06_Flush (by simp) ?_
  simp -implicitDefEqProofs [a_ref06_Flush, q_ref06_Flush_0, hw.size, hw.shp, hw.agg, hw.good, hw.comps, hw.st]
  intro g1 h1 g2 n2 n2' h2
  simp -implicitDefEqProofs [q_ref06_Flush_1, hw.size, hw.shp, hw.agg, hw.good, hw.comps, hw.st, n2, n2']
  refine (w_ref06_step (D := D) (gl := gl) (n := D.last.length) hw hwf hst).call (.cons (.refl _) rfl .nil) (by simp [AV.noF, AV.noFs, hw.noF, refC]) ?_
  simp -implicitDefEqProofs [refC, hw.size, hw.shp, hw.agg, hw.good, hw.comps, hw.st]
  intro g4 n4 n4' n5 n5' h4
  have hrs : RefIn A (.agg [.own gl 0 D.last.length, wv, .int .i64 D.step.steps, .int .i64 D.step.fuse, .bool D.step.down]) D.step := ⟨gl, wv, by simp [D.step_last], by simpa [D.step_last] using hgl, by simpa [D.step_wait] using hwv⟩
  have hb2 : ((B.set g1 (.var 67 [.own gl 0 D.last.length, wv, .int .i64 D.steps, .int .i64 D.fuse, .bool D.down])).set g2 (.var 67 [.nilS, .nilS, .int .i64 0, .int .i64 0, .bool false])) g4 = none := by simp [n4, n4', n5, n5', h4]
  have fB := sub_new (g := g2) (c := .var 67 [.nilS, .nilS, .int .i64 0, .int .i64 0, .bool false]) (sub_none (c := .var 67 [.own gl 0 D.last.length, wv, .int .i64 D.steps, .int .i64 D.fuse, .bool D.down]) h1) (show _ = none by simp [n2, n2', h2])
  have fB4 := sub_new (c := .var 67 [.own gl 0 D.last.length, wv, .int .i64 D.step.steps, .int .i64 D.step.fuse, .bool D.step.down]) fB hb2
  unfold Dsk.flush at hk
  cases hok : D.ok
  · rw [hok] at hk
    simp -implicitDefEqProofs [q_ref06_Flush_2, q_ref06_Flush_3, hw.size, hw.shp, hw.agg, hw.good, hw.comps, hw.st, n4, n4', outOf]
    exact hk _ _ (sub_set' fB4 h2) (hrs.plus0 hA)
  · rw [hok] at hk
    simp -implicitDefEqProofs [q_ref06_Flush_2, q_ref06_Flush_4, hw.size, hw.shp, hw.agg, hw.good, hw.comps, hw.st, n4, n4']
    refine w_ref06_settle (keep := []) hrs (Dsk.step_wf hwf) (sub_tr hA fB4) (by rw [D.step_wait]; exact hwl) (fun C hC => .nilD 1) rfl true fun rv' C hC hrC => ?_
    have hrC' := hrC
    obtain ⟨gl', wv', rfl, h1', h2'⟩ := hrC
    have hw' := h2'.scl
    have c2 := hC g2 _ (by simp [n4, n4']; rfl)
    simp -implicitDefEqProofs [hw'.size, hw'.shp, hw'.agg, hw'.good, hw'.comps, hw'.st]
    intro g6 h6
    have y2 := fresh_ne c2 h6
    simp -implicitDefEqProofs [q_ref06_Flush_5, hw'.size, hw'.shp, hw'.agg, hw'.good, hw'.comps, hw'.st, c2, y2, outOf]
    refine hk _ _ (sub_set' (sub_new (sub_tr fB4 hC) h6) h2) (hrC'.mono (plus_sub2 hA fB4 fun x c hx hc => ?_))
    have : x ≠ g2 := by rintro rfl; simp [n4, n4'] at hx
    rw [Heap.set_ne _ _ this, Heap.set_ne _ _ (fresh_ne hc h6)]; exact hc
theorem w_ref06_Crash (h : RefIn A rv D) (hwf : D.Wf) (hA : A.Sub B) (hwl : D.wait.length < 2 ^ 32) {kv : AV} {keep : List Bool} (hv : ∀ C, B.Sub C → Vw C kv (.dsl 1 (bls keep))) (hva : kv.isAgg = false)
    (hk : ∀ rv' B', B.Sub B' → RefIn (A.plus B B') rv' (D.crash keep) → K (.tuple [rv', .int .i64 (stn (keeps keep) D.wait.length)]) B') : SimX Try.prog F_ref06_Crash [rv, kv] B (outK K Kp) := by
  have hr := h
  obtain ⟨gl, wv, rfl, hgl, hwv⟩ := h
  have hw := hwv.scl
  have hwB := hwv.mono hA
  refine j_ref06_Crash (by simp) ?_
  simp -implicitDefEqProofs [a_ref06_Crash, q_ref06_Crash_0, hw.size, hw.shp, hw.agg, hw.good, hw.comps, hw.st]
  intro g2 h2 g4 n4 n4' h4
  have hb2 : (B.set g2 (.var 67 [.own gl 0 D.last.length, wv, .int .i64 D.steps, .int .i64 D.fuse, .bool D.down])) g4 = none := by simp [n4, n4', h4]
  have fB := sub_new (c := .var 67 [.nilS, .nilS, .int .i64 0, .int .i64 0, .bool false]) (sub_none (c := .var 67 [.own gl 0 D.last.length, wv, .int .i64 D.steps, .int .i64 D.fuse, .bool D.down]) h2) hb2
  simp -implicitDefEqProofs [q_ref06_Crash_1, hw.size, hw.shp, hw.agg, hw.good, hw.comps, hw.st, n4, n4', hva]
  refine w_ref06_settle hr hwf (sub_tr hA fB) hwl (fun C hC => hv C (sub_tr fB hC)) hva false fun rv' C hC hrC => ?_
  have e : (fun i => false || keeps keep i) = keeps keep := by funext i; simp
  rw [e] at hrC ⊢
  obtain ⟨gl', wv', rfl, h1', h2'⟩ := hrC
  have hw' := h2'.scl
  have c4 := hC g4 _ (by simp; rfl)
  simp -implicitDefEqProofs [hw'.size, hw'.shp, hw'.agg, hw'.good, hw'.comps, hw'.st]
  intro g6 h6
  have y4 := fresh_ne c4 h6
  simp -implicitDefEqProofs [q_ref06_Crash_2, q_ref06_Crash_3, q_ref06_Crash_4, hw'.size, hw'.shp, hw'.agg, hw'.good, hw'.comps, hw'.st, c4, y4, outOf]
  refine hk _ _ (sub_set' (sub_new (sub_tr fB hC) h6) h4) (RefIn.mono ⟨gl', wv', rfl, h1', h2'⟩ (plus_sub2 hA fB fun x c hx hc => ?_))
  have : x ≠ g4 := by rintro rfl; simp at hx
  rw [Heap.set_ne _ _ this, Heap.set_ne _ _ (fresh_ne hc h6)]; exact hc
theorem w_ref06_Put (h : RefIn A rv D) (hwf : D.Wf) (hA : A.Sub B) (hst : D.steps < 2 ^ 62) (hwl : D.wait.length < 2 ^ 32) {a : Int} {s : List Nat}
    (hk : ∀ rv' B', B.Sub B' → RefIn (A.plus B B') rv' (if D.inside a then D.write a.toNat s else D) → K (.tuple [rv', .int .i64 (if D.inside a then codeOf D.ok else 2)]) B') : SimX Try.prog F_ref06_Put [rv, .int .i64 a, secV s] B (outK K Kp) := by
  have hr := h
  obtain ⟨gl, wv, rfl, hgl, hwv⟩ := h
  have hw := hwv.scl
  have hwB := hwv.mono hA
  refine j_ref06_Put (by simp) ?_
  simp -implicitDefEqProofs [a_ref06_Put, q_ref06_Put_0, secV, hw.size, hw.shp, hw.agg, hw.good, hw.comps, hw.st, -List.reduceReplicate]
  intro g3 h3 g5 n5 n5' h5 g6 n6 n6' m6 m6' h6
  have hb1 : (B.set g3 (.var 67 [.own gl 0 D.last.length, wv, .int .i64 D.steps, .int .i64 D.fuse, .bool D.down])) g5 = none := by simp [n5, n5', h5]
  have fB1 := sub_new (c := .var 78 [.iarr .u8 256 (ints s)]) (sub_none (c := .var 67 [.own gl 0 D.last.length, wv, .int .i64 D.steps, .int .i64 D.fuse, .bool D.down]) h3) hb1
  have fB2 := sub_new (g := g6) (c := .var 67 [.nilS, .nilS, .int .i64 0, .int .i64 0, .bool false]) fB1 (show _ = none by simp [n6, n6', m6, m6', h6])
  cases hi : D.inside a
  · rw [hi] at hk
    have hi' := hi
    simp only [Dsk.inside, Bool.and_eq_false_iff, decide_eq_false_iff_not] at hi
    simp at hk
    by_cases c0 : a < 0
    · simp -implicitDefEqProofs [q_ref06_Put_1, q_ref06_Put_2, c0, hw.size, hw.shp, hw.agg, hw.good, hw.comps, hw.st, n5, n5', n6, n6', m6, m6', outOf]
      exact hk _ _ (sub_set' fB1 h6) (hr.plus0 hA)
    · have c1 : (D.last.length : Int) ≤ a := by omega
      simp -implicitDefEqProofs [q_ref06_Put_1, q_ref06_Put_2, c0, c1, hw.size, hw.shp, hw.agg, hw.good, hw.comps, hw.st, n5, n5', n6, n6', m6, m6', outOf]
      exact hk _ _ (sub_set' fB1 h6) (hr.plus0 hA)
  · rw [hi] at hk
    simp only [Dsk.inside, Bool.and_eq_true, decide_eq_true_eq] at hi
    obtain ⟨n, rfl⟩ : ∃ n : Nat, a = n := ⟨a.toNat, by omega⟩
    have c0 : ¬ (n : Int) < 0 := by omega
    have c1 : ¬ (D.last.length : Int) ≤ n := by omega
    have c2 : ¬ D.last.length ≤ n := by omega
    simp at hk
    simp -implicitDefEqProofs [q_ref06_Put_1, q_ref06_Put_3, c0, c1, c2, hw.size, hw.shp, hw.agg, hw.good, hw.comps, hw.st, n5, n5', n6, n6', m6, m6']
    refine (w_ref06_step (D := D) (gl := gl) (n := D.last.length) hw hwf hst).call (.cons (.refl _) rfl .nil) (by simp [AV.noF, AV.noFs, hw.noF, refC]) ?_
    simp -implicitDefEqProofs [refC, hw.size, hw.shp, hw.agg, hw.good, hw.comps, hw.st]
    intro g8 n8 n8' m8 m8' o8 o8' h8
    have fB3 := sub_new (g := g8) (c := .var 67 [.own gl 0 D.last.length, wv, .int .i64 D.step.steps, .int .i64 D.step.fuse, .bool D.step.down]) fB2 (show _ = none by simp [n8, n8', m8, m8', o8, o8', h8])
    have hrs : RefIn A (.agg [.own gl 0 D.last.length, wv, .int .i64 D.step.steps, .int .i64 D.step.fuse, .bool D.step.down]) D.step := ⟨gl, wv, by simp [D.step_last], by simpa [D.step_last] using hgl, by simpa [D.step_wait] using hwv⟩
    cases hok : D.ok
    · rw [hok] at hk
      simp -implicitDefEqProofs [q_ref06_Put_4, q_ref06_Put_5, hw.size, hw.shp, hw.agg, hw.good, hw.comps, hw.st, n8, n8', m8, m8', o8, o8', outOf]
      refine hk _ _ (sub_set' fB3 h6) ?_
      have e : D.write n s = D.step := by simp [Dsk.write, hok]
      rw [e]; exact hrs.plus0 hA
    · rw [hok] at hk
      simp -implicitDefEqProofs [q_ref06_Put_4, q_ref06_Put_6, q_ref06_Put_7, hw.size, hw.shp, hw.agg, hw.good, hw.comps, hw.st, n5, n5', n6, n6', m6, m6', n8, n8', m8, m8', o8, o8']
      have fB4 := sub_new (g := g8) (c := .var 67 [.own gl 0 D.last.length, .nilS, .int .i64 D.step.steps, .int .i64 D.step.fuse, .bool D.step.down]) fB2 (show _ = none by simp [n8, n8', m8, m8', o8, o8', h8])
      refine (SlR.nil (e := 130) (sz := 257) (Sub_refl _)).appS (bytes := 264) (ys := wrs D.wait) (Sub_refl _) (hwB.src fB4) (wrs_sts _) (by simp; omega) fun gn n' C hn hC => ?_
      rw [List.nil_append] at hn hC
      rw [wrs_length] at hn
      subst hn
      obtain ⟨hn0, hn1, _, _⟩ := hC.at
      simp only [set_none] at hn0
      obtain ⟨z8, z8', ⟨z6, z6', ⟨z5, z5', ⟨z3, z3', zB⟩⟩⟩⟩ := hn0
      have f5 := hC.sub g5 _ (by simp [n5, n5', n6, n6', n8, n8', m8, m8', m6, m6', o8, o8']; rfl)
      have f6 := hC.sub g6 _ (by simp [n8, n8']; rfl)
      have f8 := hC.sub g8 _ (by simp; rfl)
      have hBC := sub_tr fB4 hC.sub
      have hC2 := (hC.base fB4).set (c := .var 67 [.own gl 0 D.last.length, .own gn 0 D.wait.length, .int .i64 D.step.steps, .int .i64 D.step.fuse, .bool D.step.down]) h8 (fun n e => by injection e with e _ _; exact z8 e)
      obtain ⟨X, x1, x2, x3, x4, x5⟩ := hC2.top
      have x6 := x4 g6 (.var 67 [.nilS, .nilS, .int .i64 0, .int .i64 0, .bool false]) (by simp [n8, n8', f6]) (fun n e => by injection e with e _ _; exact z6 e)
      have x8 := x4 g8 _ set_eq' (fun n e => by injection e with e _ _; exact z8 e)
      simp -implicitDefEqProofs [q_ref06_Put_8, f5, f6, f8, n8, n8', m8, m8', o8, o8']
      intro g40 k1 k1' h40
      refine x3.appS (bytes := 264) (ys := [wrV (n, s)]) (sub_none (by simp [k1, k1', h40])) (src_row set_eq' rfl) (by simp [wrV, secV]) (by simp; omega) fun gm n2 C2 hn2 hC2' => ?_
      have y6 := hC2'.sub _ _ x6
      have y8 := hC2'.sub _ _ x8
      obtain ⟨w0, w1, _, _⟩ := hC2'.at
      simp -implicitDefEqProofs [q_ref06_Put_9, y6, y8, n8, n8', outOf]
      have e : D.write n s = { D.step with wait := D.wait ++ [(n, s)] } := by simp [Dsk.write, hok]
      rw [e] at hk
      have w6 : gm ≠ g6 := by rintro rfl; rw [w0] at x6; cases x6
      have w8 : gm ≠ g8 := by rintro rfl; rw [w0] at x8; cases x8
      have wB := sub_noneL x1 w0
      have hfin := sub_set' (c := .var 67 [.own gl 0 D.last.length, .own gm 0 n2, .int .i64 D.step.steps, .int .i64 D.step.fuse, .bool D.step.down]) (sub_set' (c := .var 67 [.own gl 0 D.last.length, .own gm 0 n2, .int .i64 D.step.steps, .int .i64 D.step.fuse, .bool D.step.down]) (sub_tr x1 hC2'.sub) h8) h6
      refine hk _ _ hfin ⟨gl, .own gm 0 n2, ?_, sub_plus hA _ _ ?_, ⟨H0_sub _, .inr ⟨gm, ?_, rfl, ?_⟩⟩⟩
      · simp [D.step_last]
      · simpa [D.step_last] using hgl
      · rw [hn2]; simp
      · rw [plus_new wB]; simp [w6, w8, w1, wrs_snoc]
theorem w_ref06_Read (h : RefIn A rv D) (hwf : D.Wf) (hwl : D.wait.length < 2 ^ 32) {a : Int} (hA : A.Sub B) (hk : ∀ B', B.Sub B' → K (.tuple [secV (D.rd a).1, .int .i64 (D.rd a).2]) B') : SimX Try.prog F_ref06_Read [rv, .int .i64 a] B (outK K Kp) := by
  obtain ⟨gl, wv, rfl, hgl, hwv⟩ := h
  have hw := hwv.scl
  have hwB := hwv.mono hA
  refine j_ref06_Read (by simp) ?_
  simp -implicitDefEqProofs [a_ref06_Read, q_ref06_Read_0, hw.size, hw.shp, hw.agg, hw.good, hw.comps, hw.st, -List.reduceReplicate]
  intro g2 h2 g4 n4 n4' h4
  have fB := sub_none (c := .var 67 [.own gl 0 D.last.length, wv, .int .i64 D.steps, .int .i64 D.fuse, .bool D.down]) h2
  unfold Dsk.rd at hk
  cases hi : D.inside a
  · rw [hi] at hk
    simp only [Dsk.inside, Bool.and_eq_false_iff, decide_eq_false_iff_not] at hi
    simp [secV, ints_z, zsec, -List.reduceReplicate] at hk
    by_cases c0 : a < 0
    · simp -implicitDefEqProofs [q_ref06_Read_1, q_ref06_Read_2, c0, hw.size, hw.shp, hw.agg, hw.good, hw.comps, hw.st, outOf, -List.reduceReplicate]
      exact hk _ (sub_set' fB h4)
    · have c1 : (D.last.length : Int) ≤ a := by omega
      simp -implicitDefEqProofs [q_ref06_Read_1, q_ref06_Read_2, c0, c1, hw.size, hw.shp, hw.agg, hw.good, hw.comps, hw.st, n4, n4', outOf, -List.reduceReplicate]
      exact hk _ (sub_set' fB h4)
  · rw [hi] at hk
    simp only [Dsk.inside, Bool.and_eq_true, decide_eq_true_eq] at hi
    obtain ⟨n, rfl⟩ : ∃ n : Nat, a = n := ⟨a.toNat, by omega⟩
    have c0 : ¬ (n : Int) < 0 := by omega
    have c1 : ¬ (D.last.length : Int) ≤ n := by omega
    have c2 : ¬ D.last.length ≤ n := by omega
    have hn : n < D.last.length := by omega
    cases hd : D.down
    · rw [hd] at hk
      simp at hk
      have hglB := hA _ _ hgl
      have y2 := fresh_ne hglB h2
      have y4 := fresh_ne hglB h4
      simp -implicitDefEqProofs [q_ref06_Read_1, q_ref06_Read_3, q_ref06_Read_5, c0, c1, c2, hn, hd, hglB, y2, y4, secs_getE, secV, hw.size, hw.shp, hw.agg, hw.good, hw.comps, hw.st, n4, n4', -List.reduceReplicate]
      intro g6 n6 n6' m6 m6' h6
      simp -implicitDefEqProofs [q_ref06_Read_6, -List.reduceReplicate]
      obtain ⟨s0, hs0⟩ : ∃ s0, D.last[n] = s0 := ⟨_, rfl⟩
      have hval : D.val n = look D.wait n s0 := by unfold Dsk.val; rw [List.getD_eq_getElem?_getD, List.getElem?_eq_getElem hn, ← hs0]; rfl
      rw [hs0]
      refine X_lp (fun (i : Nat) env X => i ≤ D.wait.length ∧ env 1 = .int .i64 n ∧ env 2 = .ptr g2 0 ∧ env 4 = .ptr g4 0 ∧ env 6 = .ptr g6 0 ∧ env 7 = .int .i64 i ∧
          X g2 = some (.var 67 (refC gl D.last.length wv D)) ∧ X g4 = some (.var 78 [.iarr .u8 256 (List.replicate 256 0)]) ∧ X g6 = some (.var 78 [.iarr .u8 256 (ints (look (D.wait.take i) n s0))]) ∧ B.Sub X) (fun i => D.wait.length - i) 0
        ⟨by omega, by simp, by simp, by simp, by simp, by simp, by simp [m6, m6', n4, n4', refC, hd], by simp [n6, n6'], by simp [look], sub_new (sub_new (sub_none h2) (by simp [n4, n4', h4])) (by simp [n6, n6', m6, m6', h6])⟩ ?_
      rintro i env X ⟨hil0, e1, e2, e4, e6, e7, f2, f4, f6, fB'⟩
      unfold refC at f2
      have hwX := hwB.mono fB'
      by_cases hil : i < D.wait.length
      · have hil' : (i : Int) < D.wait.length := by omega
        have wi : IntKind.i64.wrap ((i : Int) + 1) = (i : Int) + 1 := wrap_i64 (by omega)
        have hlk := look_take hil n s0
        obtain ⟨gw, hwe, _, fw⟩ := hwX.pos (by simpa using Nat.lt_of_le_of_lt (Nat.zero_le _) hil)
        rw [wrs_length] at hwe
        subst hwe
        by_cases he : D.wait[i].1 = n
        · rw [if_pos he] at hlk
          simp -implicitDefEqProofs [q_ref06_Read_L11, q_ref06_Read_7, q_ref06_Read_8, q_ref06_Read_9, q_ref06_Read_10, e1, e2, e4, e6, e7, hil, hil', f2, f6, fw, wrs_getE, wrV, secV, he, wi, -List.reduceReplicate]
          refine lp_next (i + 1) ⟨by omega, by simp [e1], by simp [e2], by simp [e4], by simp [e6], by simp, by simp [m6, m6', f2, refC], by simp [n6, n6', f4, -List.reduceReplicate], by simp [hlk], sub_set' fB' h6⟩ (by omega)
        · rw [if_neg he] at hlk
          have he' : ¬ ((D.wait[i].1 : Nat) : Int) = n := by omega
          simp -implicitDefEqProofs [q_ref06_Read_L11, q_ref06_Read_7, q_ref06_Read_8, q_ref06_Read_10, e1, e2, e4, e6, e7, hil, hil', f2, f6, fw, wrs_getE, wrV, secV, he, he', wi, -List.reduceReplicate]
          refine lp_next (i + 1) ⟨by omega, by simp [e1], by simp [e2], by simp [e4], by simp [e6], by simp, by simp [f2, refC], f4, by rw [hlk]; exact f6, fB'⟩ (by omega)
      · have hie : i = D.wait.length := by omega
        subst hie
        rw [List.take_length, ← hval] at f6
        simp -implicitDefEqProofs [q_ref06_Read_L11, q_ref06_Read_7, q_ref06_Read_11, e1, e2, e4, e6, e7, f2, f4, f6, hwX.len, hw.size, hw.shp, hw.agg, hw.good, hw.comps, hw.st, outOf, -List.reduceReplicate]
        exact hk _ (sub_set' fB' h4)
    · rw [hd] at hk
      simp [secV, ints_z, zsec, -List.reduceReplicate] at hk
      simp -implicitDefEqProofs [q_ref06_Read_1, q_ref06_Read_3, q_ref06_Read_4, c0, c1, c2, hd, hw.size, hw.shp, hw.agg, hw.good, hw.comps, hw.st, n4, n4', outOf, -List.reduceReplicate]
      exact hk _ (sub_set' (sub_none h2) h4)
end
theorem secV_eq {a b : List Nat} (ha : Sec a) (hb : Sec b) : eqI 256 (ints a) (ints b) = (a == b) := eqI_ints ha.1 hb.1
theorem beq_take {α : Type} [BEq α] [LawfulBEq α] {a b : List α} (hl : a.length = b.length) : a.take a.length = b.take a.length ↔ a = b := by
  rw [List.take_length, hl, List.take_length]
theorem take_succ_eq {α : Type} {a b : List α} {i : Nat} (ha : i < a.length) (hb : i < b.length) : (a.take (i + 1) = b.take (i + 1)) ↔ (a.take i = b.take i ∧ a[i] = b[i]) := by
  rw [List.take_succ_eq_append_getElem ha, List.take_succ_eq_append_getElem hb]
  constructor
  · intro h
    have := List.append_inj' h rfl
    exact ⟨this.1, by simpa using this.2⟩
  · rintro ⟨h1, h2⟩; rw [h1, h2]
theorem w_ref06_SameImage {L M : List (List Nat)} (hL : ∀ s ∈ L, Sec s) (hM : ∀ s ∈ M, Sec s) (hl : L.length ≤ 4096) : Gives Try.prog F_ref06_SameImage [.dsl 256 (secs L), .dsl 256 (secs M)] (.bool (L == M)) := by
  refine v_ref06_SameImage (by simp) ?_
  by_cases hlen : L.length = M.length
  · have hlen' : (L.length : Int) = M.length := by omega
    simp -implicitDefEqProofs [a_ref06_SameImage, q_ref06_SameImage_0, q_ref06_SameImage_1, q_ref06_SameImage_3, hlen, hlen']
    refine X_lp (fun (i : Nat) env X => i ≤ L.length ∧ env 0 = .dsl 256 (secs L) ∧ env 1 = .dsl 256 (secs M) ∧ env 5 = .int .i64 i ∧ L.take i = M.take i) (fun i => L.length - i) 0
      ⟨by omega, by simp, by simp, by simp, by simp⟩ ?_
    rintro i env X ⟨hi, e0, e1, e5, he⟩
    by_cases hil : i < L.length
    · have hil' : (i : Int) < L.length := by omega
      have him : i < M.length := by omega
      have wi : IntKind.i64.wrap ((i : Int) + 1) = (i : Int) + 1 := wrap_i64 (by omega)
      have heq := secV_eq (hL _ (List.getElem_mem hil)) (hM _ (List.getElem_mem him))
      have hts := take_succ_eq hil him
      by_cases hb : L[i] = M[i]
      · have heq' : eqI 256 (ints L[i]) (ints M[i]) = true := by rw [heq]; simpa using hb
        simp -implicitDefEqProofs [q_ref06_SameImage_L8, q_ref06_SameImage_4, q_ref06_SameImage_5, q_ref06_SameImage_7, e0, e1, e5, hil, hil', him, secs_getE, secV, heq', wi]
        exact lp_next (i + 1) ⟨by omega, by simp [e0], by simp [e1], by simp, hts.2 ⟨he, hb⟩⟩ (by omega)
      · have heq' : eqI 256 (ints L[i]) (ints M[i]) = false := by rw [heq]; simpa using hb
        have hne : ¬ L = M := fun e => by subst e; exact hb rfl
        simp -implicitDefEqProofs [q_ref06_SameImage_L8, q_ref06_SameImage_4, q_ref06_SameImage_5, q_ref06_SameImage_6, e0, e1, e5, hil, hil', him, secs_getE, secV, heq', outOf, hne]
    · have hie : i = L.length := by omega
      subst hie
      have := (beq_take hlen).1 he
      simp -implicitDefEqProofs [q_ref06_SameImage_L8, q_ref06_SameImage_4, q_ref06_SameImage_8, e0, e5, outOf, this]
  · have hlen' : ¬ (L.length : Int) = M.length := by omega
    have hne : ¬ L = M := fun e => hlen (by rw [e])
    simp -implicitDefEqProofs [a_ref06_SameImage, q_ref06_SameImage_0, q_ref06_SameImage_1, q_ref06_SameImage_2, hlen', hne, outOf]
end Go.Proofs.Ytjbiekcldkjgjaa
