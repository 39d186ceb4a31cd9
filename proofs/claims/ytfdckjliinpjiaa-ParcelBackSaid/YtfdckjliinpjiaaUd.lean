/- The walks of the reference's Put, of both Same, of the law's Light. -/
import Derived.Test.YtfdckjliinpjiaaUc
namespace Go.Proofs.Ytfdckjliinpjiaa
open Go AVL
attribute [-simp] AV.isAgg aappI aapp alen shp good comps
set_option linter.unusedVariables false
set_option linter.unusedSimpArgs false
set_option maxRecDepth 8000

theorem adr_eq {a b : List Nat} (ha : Adr a) (hb : Adr b) : eqI 32 (ints a) (ints b) = decide (a = b) := by
  rw [eqI_ints ha.2 hb.2]; rw [Bool.eq_iff_iff]; simp
theorem rq_ext {r s : Rq} (h1 : r.op = s.op) (h2 : r.name = s.name) (h3 : r.actor = s.actor) (h4 : r.note = s.note) (h5 : r.n = s.n) (h6 : r.ev = s.ev) (h7 : r.pr = s.pr) (h8 : r.text = s.text) (h9 : r.addr = s.addr) (h10 : r.list = s.list) : r = s := by
  cases r; cases s; simp_all
theorem take_eq_of {α : Type} {a b : List α} (hl : a.length = b.length) (h : a.take a.length = b.take a.length) : a = b := by
  rw [List.take_length] at h; rw [h, hl, List.take_length]
theorem take_succ_eq' {α : Type} {a b : List α} {i : Nat} (ha : i < a.length) (hb : i < b.length) (h : a.take i = b.take i) (e : a[i] = b[i]) : a.take (i + 1) = b.take (i + 1) := by
  rw [List.take_succ_eq_append_getElem ha, List.take_succ_eq_append_getElem hb, h, e]
theorem w_ref24_Same {r s : Rq} (hr : r.Wf) (hs : s.Wf) (hrl : r.list.length < 2 ^ 62) : Gives Try.prog F_ref24_Same [reqV r, reqV s] (.bool (decide (r = s))) := by
  refine v_ref24_Same (by simp) ?_
  have wn := sN_inj hr.name hs.name
  have wa := sN_inj hr.actor hs.actor
  have wo := sN_inj hr.note hs.note
  have wt := sN_inj hr.text hs.text
  have wd := adr_eq hr.addr hs.addr
  have wd2 : eqI 32 (ints s.addr) (ints s.addr) = true := by rw [adr_eq hs.addr hs.addr]; simp
  have wb : ∀ a b : Bool, (a == b) = decide (a = b) := fun a b => by cases a <;> cases b <;> rfl
  simp -implicitDefEqProofs [a_ref24_Same, q_ref24_Same_0, reqV, reqC]
  intro g2 g3 n3 n3'
  obtain ⟨X, hX⟩ : ∃ X, (H0.set g2 (Cont.var 26 [.int .i64 r.op, .str (sN r.name), .str (sN r.actor), .str (sN r.note), .int .i64 r.n, .bool r.ev, .bool r.pr, .isl .u8 (ints r.text), .iarr .u8 32 (ints r.addr), .dsl 32 (adrs r.list)])).set g3 (Cont.var 26 [.int .i64 s.op, .str (sN s.name), .str (sN s.actor), .str (sN s.note), .int .i64 s.n, .bool s.ev, .bool s.pr, .isl .u8 (ints s.text), .iarr .u8 32 (ints s.addr), .dsl 32 (adrs s.list)]) = X := ⟨_, rfl⟩
  have f2 : X g2 = some (Cont.var 26 [.int .i64 r.op, .str (sN r.name), .str (sN r.actor), .str (sN r.note), .int .i64 r.n, .bool r.ev, .bool r.pr, .isl .u8 (ints r.text), .iarr .u8 32 (ints r.addr), .dsl 32 (adrs r.list)]) := by rw [← hX]; simp [n3']
  have f3 : X g3 = some (Cont.var 26 [.int .i64 s.op, .str (sN s.name), .str (sN s.actor), .str (sN s.note), .int .i64 s.n, .bool s.ev, .bool s.pr, .isl .u8 (ints s.text), .iarr .u8 32 (ints s.addr), .dsl 32 (adrs s.list)]) := by rw [← hX]; simp
  rw [hX]
  clear hX
  by_cases h0 : r.op = s.op
  case neg =>
    have hne : ¬ r = s := fun e => h0 (by rw [e])
    simp -implicitDefEqProofs [q_ref24_Same_1, q_ref24_Same_2, f2, f3, wn, wa, wo, wt, wd, wd2, wb, strOf_ints, outOf, hne, h0]
  by_cases h1 : r.name = s.name
  case neg =>
    have hne : ¬ r = s := fun e => h1 (by rw [e])
    simp -implicitDefEqProofs [q_ref24_Same_1, q_ref24_Same_2, f2, f3, wn, wa, wo, wt, wd, wd2, wb, strOf_ints, outOf, hne, h0, h1]
  by_cases h2 : r.actor = s.actor
  case neg =>
    have hne : ¬ r = s := fun e => h2 (by rw [e])
    simp -implicitDefEqProofs [q_ref24_Same_1, q_ref24_Same_2, f2, f3, wn, wa, wo, wt, wd, wd2, wb, strOf_ints, outOf, hne, h0, h1, h2]
  by_cases h3 : r.note = s.note
  case neg =>
    have hne : ¬ r = s := fun e => h3 (by rw [e])
    simp -implicitDefEqProofs [q_ref24_Same_1, q_ref24_Same_2, f2, f3, wn, wa, wo, wt, wd, wd2, wb, strOf_ints, outOf, hne, h0, h1, h2, h3]
  by_cases h4 : r.n = s.n
  case neg =>
    have hne : ¬ r = s := fun e => h4 (by rw [e])
    simp -implicitDefEqProofs [q_ref24_Same_1, q_ref24_Same_2, f2, f3, wn, wa, wo, wt, wd, wd2, wb, strOf_ints, outOf, hne, h0, h1, h2, h3, h4]
  by_cases h5 : r.ev = s.ev
  case neg =>
    have hne : ¬ r = s := fun e => h5 (by rw [e])
    simp -implicitDefEqProofs [q_ref24_Same_1, q_ref24_Same_2, f2, f3, wn, wa, wo, wt, wd, wd2, wb, strOf_ints, outOf, hne, h0, h1, h2, h3, h4, h5]
  by_cases h6 : r.pr = s.pr
  case neg =>
    have hne : ¬ r = s := fun e => h6 (by rw [e])
    simp -implicitDefEqProofs [q_ref24_Same_1, q_ref24_Same_2, f2, f3, wn, wa, wo, wt, wd, wd2, wb, strOf_ints, outOf, hne, h0, h1, h2, h3, h4, h5, h6]
  by_cases h7 : r.text = s.text
  case neg =>
    have hne : ¬ r = s := fun e => h7 (by rw [e])
    simp -implicitDefEqProofs [q_ref24_Same_1, q_ref24_Same_2, f2, f3, wn, wa, wo, wt, wd, wd2, wb, strOf_ints, outOf, hne, h0, h1, h2, h3, h4, h5, h6, h7]
  by_cases h8 : r.addr = s.addr
  case neg =>
    have hne : ¬ r = s := fun e => h8 (by rw [e])
    simp -implicitDefEqProofs [q_ref24_Same_1, q_ref24_Same_2, f2, f3, wn, wa, wo, wt, wd, wd2, wb, strOf_ints, outOf, hne, h0, h1, h2, h3, h4, h5, h6, h7, h8]
  by_cases hl : r.list.length = s.list.length
  case neg =>
    have hne : ¬ r = s := fun e => hl (by rw [e])
    have hl' : ¬ (r.list.length : Int) = s.list.length := by omega
    simp -implicitDefEqProofs [q_ref24_Same_1, q_ref24_Same_2, f2, f3, wn, wa, wo, wt, wd, wd2, wb, strOf_ints, outOf, hne, h0, h1, h2, h3, h4, h5, h6, h7, h8, hl, hl']
  have hl' : (r.list.length : Int) = s.list.length := by omega
  simp -implicitDefEqProofs [q_ref24_Same_1, q_ref24_Same_3, f2, f3, wn, wa, wo, wt, wd, wd2, wb, strOf_ints, h0, h1, h2, h3, h4, h5, h6, h7, h8, hl, hl']
  refine X_lp (fun (i : Nat) env Y => i ≤ r.list.length ∧ env 2 = .ptr g2 0 ∧ env 3 = .ptr g3 0 ∧ env 5 = .int .i64 i ∧ r.list.take i = s.list.take i ∧ Y g2 = some (Cont.var 26 [.int .i64 r.op, .str (sN r.name), .str (sN r.actor), .str (sN r.note), .int .i64 r.n, .bool r.ev, .bool r.pr, .isl .u8 (ints r.text), .iarr .u8 32 (ints r.addr), .dsl 32 (adrs r.list)]) ∧ Y g3 = some (Cont.var 26 [.int .i64 s.op, .str (sN s.name), .str (sN s.actor), .str (sN s.note), .int .i64 s.n, .bool s.ev, .bool s.pr, .isl .u8 (ints s.text), .iarr .u8 32 (ints s.addr), .dsl 32 (adrs s.list)])) (fun i => r.list.length - i) 0
    ⟨by omega, by simp, by simp, by simp, by simp, f2, f3⟩ ?_
  clear f2 f3
  rintro i env Y ⟨hi, e2, e3, e5, htk, f2, f3⟩
  by_cases hil : i < r.list.length
  · have hil' : (i : Int) < r.list.length := by omega
    have his : i < s.list.length := by omega
    have wi : IntKind.i64.wrap ((i : Int) + 1) = (i : Int) + 1 := wrap_i64 (by omega)
    have heq := adr_eq (hr.list _ (List.getElem_mem hil)) (hs.list _ (List.getElem_mem his))
    by_cases hb : r.list[i] = s.list[i]
    · have hq2 : eqI 32 (ints s.list[i]) (ints s.list[i]) = true := by rw [adr_eq (hs.list _ (List.getElem_mem his)) (hs.list _ (List.getElem_mem his))]; simp
      simp -implicitDefEqProofs [q_ref24_Same_L8, q_ref24_Same_4, q_ref24_Same_5, q_ref24_Same_7, e2, e3, e5, f2, f3, hil, hil', his, adrs_getE, adrV, hq2, hb, wi]
      refine lp_next (i + 1) ⟨by omega, by simp [e2], by simp [e3], by simp, take_succ_eq' hil his htk hb, f2, f3⟩ (by omega)
    · have hne : ¬ r = s := fun e => by subst e; exact hb rfl
      simp -implicitDefEqProofs [q_ref24_Same_L8, q_ref24_Same_4, q_ref24_Same_5, q_ref24_Same_6, e2, e3, e5, f2, f3, hil, hil', his, adrs_getE, adrV, heq, hb, hne, outOf]
  · have hie : i = r.list.length := by omega
    subst hie
    have hls := take_eq_of hl htk
    have he := rq_ext h0 h1 h2 h3 h4 h5 h6 h7 h8 hls
    simp -implicitDefEqProofs [q_ref24_Same_L8, q_ref24_Same_4, q_ref24_Same_8, e2, e3, e5, f2, f3, outOf, he]
theorem w_parcel_Same {r s : Rq} (hr : r.Wf) (hs : s.Wf) (hrl : r.list.length < 2 ^ 62) : Gives Try.prog F_parcel_Same [reqV r, reqV s] (.bool (decide (r = s))) := by
  refine v_parcel_Same (by simp) ?_
  have wn := sN_inj hr.name hs.name
  have wa := sN_inj hr.actor hs.actor
  have wo := sN_inj hr.note hs.note
  have wt := sN_inj hr.text hs.text
  have wd := adr_eq hr.addr hs.addr
  have wd2 : eqI 32 (ints s.addr) (ints s.addr) = true := by rw [adr_eq hs.addr hs.addr]; simp
  have wb : ∀ a b : Bool, (a == b) = decide (a = b) := fun a b => by cases a <;> cases b <;> rfl
  simp -implicitDefEqProofs [a_parcel_Same, q_parcel_Same_0, reqV, reqC]
  intro g2 g3 n3 n3'
  obtain ⟨X, hX⟩ : ∃ X, (H0.set g2 (Cont.var 26 [.int .i64 r.op, .str (sN r.name), .str (sN r.actor), .str (sN r.note), .int .i64 r.n, .bool r.ev, .bool r.pr, .isl .u8 (ints r.text), .iarr .u8 32 (ints r.addr), .dsl 32 (adrs r.list)])).set g3 (Cont.var 26 [.int .i64 s.op, .str (sN s.name), .str (sN s.actor), .str (sN s.note), .int .i64 s.n, .bool s.ev, .bool s.pr, .isl .u8 (ints s.text), .iarr .u8 32 (ints s.addr), .dsl 32 (adrs s.list)]) = X := ⟨_, rfl⟩
  have f2 : X g2 = some (Cont.var 26 [.int .i64 r.op, .str (sN r.name), .str (sN r.actor), .str (sN r.note), .int .i64 r.n, .bool r.ev, .bool r.pr, .isl .u8 (ints r.text), .iarr .u8 32 (ints r.addr), .dsl 32 (adrs r.list)]) := by rw [← hX]; simp [n3']
  have f3 : X g3 = some (Cont.var 26 [.int .i64 s.op, .str (sN s.name), .str (sN s.actor), .str (sN s.note), .int .i64 s.n, .bool s.ev, .bool s.pr, .isl .u8 (ints s.text), .iarr .u8 32 (ints s.addr), .dsl 32 (adrs s.list)]) := by rw [← hX]; simp
  rw [hX]
  clear hX
  by_cases hl : r.list.length = s.list.length
  case neg =>
    have hne : ¬ r = s := fun e => hl (by rw [e])
    have hl' : ¬ (r.list.length : Int) = s.list.length := by omega
    simp -implicitDefEqProofs [q_parcel_Same_1, q_parcel_Same_2, f2, f3, outOf, hne, hl, hl']
  have hl' : (r.list.length : Int) = s.list.length := by omega
  simp -implicitDefEqProofs [q_parcel_Same_1, q_parcel_Same_3, f2, f3, hl, hl']
  refine X_lp (fun (i : Nat) env Y => i ≤ r.list.length ∧ env 2 = .ptr g2 0 ∧ env 3 = .ptr g3 0 ∧ env 15 = .int .i64 r.list.length ∧ env 16 = .int .i64 i ∧ r.list.take i = s.list.take i ∧ Y g2 = some (Cont.var 26 [.int .i64 r.op, .str (sN r.name), .str (sN r.actor), .str (sN r.note), .int .i64 r.n, .bool r.ev, .bool r.pr, .isl .u8 (ints r.text), .iarr .u8 32 (ints r.addr), .dsl 32 (adrs r.list)]) ∧ Y g3 = some (Cont.var 26 [.int .i64 s.op, .str (sN s.name), .str (sN s.actor), .str (sN s.note), .int .i64 s.n, .bool s.ev, .bool s.pr, .isl .u8 (ints s.text), .iarr .u8 32 (ints s.addr), .dsl 32 (adrs s.list)])) (fun i => r.list.length - i) 0
    ⟨by omega, by simp, by simp, by simp [hl], by simp, by simp, f2, f3⟩ ?_
  clear f2 f3
  rintro i env Y ⟨hi, e2, e3, e15, e16, htk, f2, f3⟩
  by_cases hil : i < r.list.length
  · have hil' : (i : Int) < r.list.length := by omega
    have his : i < s.list.length := by omega
    have wi : IntKind.i64.wrap ((i : Int) + 1) = (i : Int) + 1 := wrap_i64 (by omega)
    have heq := adr_eq (hr.list _ (List.getElem_mem hil)) (hs.list _ (List.getElem_mem his))
    by_cases hb : r.list[i] = s.list[i]
    · have hq2 : eqI 32 (ints s.list[i]) (ints s.list[i]) = true := by rw [adr_eq (hs.list _ (List.getElem_mem his)) (hs.list _ (List.getElem_mem his))]; simp
      simp -implicitDefEqProofs [q_parcel_Same_L9, q_parcel_Same_4, q_parcel_Same_5, q_parcel_Same_6, q_parcel_Same_8, e2, e3, e15, e16, f2, f3, hil, hil', his, adrs_getE, adrV, hq2, hb, wi]
      refine lp_next (i + 1) ⟨by omega, by simp [e2], by simp [e3], by simp [e15], by simp, take_succ_eq' hil his htk hb, f2, f3⟩ (by omega)
    · have hne : ¬ r = s := fun e => by subst e; exact hb rfl
      simp -implicitDefEqProofs [q_parcel_Same_L9, q_parcel_Same_4, q_parcel_Same_5, q_parcel_Same_6, q_parcel_Same_7, e2, e3, e15, e16, f2, f3, hil, hil', his, adrs_getE, adrV, heq, hb, hne, outOf]
  · have hie : i = r.list.length := by omega
    subst hie
    have hls := take_eq_of hl htk
    simp -implicitDefEqProofs [q_parcel_Same_L9, q_parcel_Same_4, e15, e16]
    by_cases h0 : r.op = s.op
    case neg =>
      have hne : ¬ r = s := fun e => h0 (by rw [e])
      simp -implicitDefEqProofs [q_parcel_Same_9, e2, e3, f2, f3, wn, wa, wo, wt, wd, wd2, wb, strOf_ints, outOf, hne, h0]
    by_cases h1 : r.name = s.name
    case neg =>
      have hne : ¬ r = s := fun e => h1 (by rw [e])
      simp -implicitDefEqProofs [q_parcel_Same_9, e2, e3, f2, f3, wn, wa, wo, wt, wd, wd2, wb, strOf_ints, outOf, hne, h0, h1]
    by_cases h2 : r.actor = s.actor
    case neg =>
      have hne : ¬ r = s := fun e => h2 (by rw [e])
      simp -implicitDefEqProofs [q_parcel_Same_9, e2, e3, f2, f3, wn, wa, wo, wt, wd, wd2, wb, strOf_ints, outOf, hne, h0, h1, h2]
    by_cases h3 : r.note = s.note
    case neg =>
      have hne : ¬ r = s := fun e => h3 (by rw [e])
      simp -implicitDefEqProofs [q_parcel_Same_9, e2, e3, f2, f3, wn, wa, wo, wt, wd, wd2, wb, strOf_ints, outOf, hne, h0, h1, h2, h3]
    by_cases h4 : r.n = s.n
    case neg =>
      have hne : ¬ r = s := fun e => h4 (by rw [e])
      simp -implicitDefEqProofs [q_parcel_Same_9, e2, e3, f2, f3, wn, wa, wo, wt, wd, wd2, wb, strOf_ints, outOf, hne, h0, h1, h2, h3, h4]
    by_cases h5 : r.ev = s.ev
    case neg =>
      have hne : ¬ r = s := fun e => h5 (by rw [e])
      simp -implicitDefEqProofs [q_parcel_Same_9, e2, e3, f2, f3, wn, wa, wo, wt, wd, wd2, wb, strOf_ints, outOf, hne, h0, h1, h2, h3, h4, h5]
    by_cases h6 : r.pr = s.pr
    case neg =>
      have hne : ¬ r = s := fun e => h6 (by rw [e])
      simp -implicitDefEqProofs [q_parcel_Same_9, e2, e3, f2, f3, wn, wa, wo, wt, wd, wd2, wb, strOf_ints, outOf, hne, h0, h1, h2, h3, h4, h5, h6]
    by_cases h7 : r.text = s.text
    case neg =>
      have hne : ¬ r = s := fun e => h7 (by rw [e])
      simp -implicitDefEqProofs [q_parcel_Same_9, e2, e3, f2, f3, wn, wa, wo, wt, wd, wd2, wb, strOf_ints, outOf, hne, h0, h1, h2, h3, h4, h5, h6, h7]
    by_cases h8 : r.addr = s.addr
    case neg =>
      have hne : ¬ r = s := fun e => h8 (by rw [e])
      simp -implicitDefEqProofs [q_parcel_Same_9, e2, e3, f2, f3, wn, wa, wo, wt, wd, wd2, wb, strOf_ints, outOf, hne, h0, h1, h2, h3, h4, h5, h6, h7, h8]
    have he := rq_ext h0 h1 h2 h3 h4 h5 h6 h7 h8 hls
    simp -implicitDefEqProofs [q_parcel_Same_9, e2, e3, f2, f3, wn, wa, wo, wt, wd, wd2, wb, strOf_ints, outOf, he, h0, h1, h2, h3, h4, h5, h6, h7, h8]
/-- A request that is no more than is waited for. -/
def lightR (r : Rq) : Bool := !(decide (200 < r.name.length) || decide (200 < r.actor.length) || decide (200 < r.note.length) || decide (3000 < r.text.length) || decide (30 < r.list.length))
theorem w_law24_Light {r : Rq} : Gives Try.prog F_law24_Light [reqV r] (.int .i64 (if lightR r then 0 else 1)) := by
  refine v_law24_Light (by simp) ?_
  simp -implicitDefEqProofs [a_law24_Light, q_law24_Light_0, reqV, reqC]
  intro g1
  unfold lightR
  by_cases h1 : 200 < r.name.length
  · have h1' : 200 < (r.name.length : Int) := by omega
    simp -implicitDefEqProofs [q_law24_Light_1, q_law24_Light_2, h1, h1', outOf]
  have h1' : ¬ 200 < (r.name.length : Int) := by omega
  by_cases h2 : 200 < r.actor.length
  · have h2' : 200 < (r.actor.length : Int) := by omega
    simp -implicitDefEqProofs [q_law24_Light_1, q_law24_Light_2, h1, h1', h2, h2', outOf]
  have h2' : ¬ 200 < (r.actor.length : Int) := by omega
  by_cases h3 : 200 < r.note.length
  · have h3' : 200 < (r.note.length : Int) := by omega
    simp -implicitDefEqProofs [q_law24_Light_1, q_law24_Light_2, h1, h1', h2, h2', h3, h3', outOf]
  have h3' : ¬ 200 < (r.note.length : Int) := by omega
  by_cases h4 : 3000 < r.text.length
  · have h4' : 3000 < (r.text.length : Int) := by omega
    simp -implicitDefEqProofs [q_law24_Light_1, q_law24_Light_2, h1, h1', h2, h2', h3, h3', h4, h4', outOf]
  have h4' : ¬ 3000 < (r.text.length : Int) := by omega
  by_cases h5 : 30 < r.list.length
  · have h5' : 30 < (r.list.length : Int) := by omega
    simp -implicitDefEqProofs [q_law24_Light_1, q_law24_Light_2, h1, h1', h2, h2', h3, h3', h4, h4', h5, h5', outOf]
  have h5' : ¬ 30 < (r.list.length : Int) := by omega
  simp -implicitDefEqProofs [q_law24_Light_1, q_law24_Light_3, h1, h1', h2, h2', h3, h3', h4, h4', h5, h5', outOf]
end Go.Proofs.Ytfdckjliinpjiaa
