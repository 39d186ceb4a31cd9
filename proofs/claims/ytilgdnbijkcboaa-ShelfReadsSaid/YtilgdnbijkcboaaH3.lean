/- Texts of this claim, in order: Xd Xe Xf Xg Bu Xh Xi Xj Xk Xl Xm Bw Xn. -/
import Derived.Test.YtilgdnbijkcboaaH2
import Derived.Test.YtilgdnbijkcboaaL4
/- The walk of shelf's entries. -/
namespace Go.Proofs.Ytilgdnbijkcboaa
open Go AVL
attribute [-simp] AV.isAgg aappI aapp alen szOK aslc List.reduceReplicate
attribute [simp] shp good comps
set_option linter.unusedVariables false
set_option linter.unusedSimpArgs false
set_option maxRecDepth 8000

theorem SlR_past {e : TypeId} {sz : Nat} {v : AV} {m : List AV} {A B C : Heap} {g : Nat} {c : Cont} (h : SlR e sz v m A B) (hA : A g = none) (hB : B g = some c) (hc : ∀ l, c ≠ .row e sz l) (hs : ∀ x c, x ≠ g → B x = some c → C x = some c) : SlR e sz v m A C :=
  ⟨fun x y hx => hs x y (fun e => by rw [e, hA] at hx; cases hx) (h.sub _ _ hx), h.own.imp id fun ⟨g1, h1, h2, h3⟩ => ⟨g1, h1, h2, hs g1 _ (fun e => by rw [e, hB] at h3; injection h3 with h3; exact hc _ h3) h3⟩⟩
section
variable {A : Heap} {K Kp : AV → Heap → Prop}
structure EsI (g1 gc : Nat) (x : List Nat) (Y : Heap) (k : Nat) (env : AEnv) (B : Heap) : Prop where
  le : k ≤ 6
  e5 : env 5 = .ptr gc 0
  e13 : env 13 = .int .i64 k
  cur : CurI gc g1 x (42 * k) (252 - 42 * k) B
  w : SlR T_api_Entry 34 (env 4) (((List.range k).map fun k => oneE x (42 * k)).map enA) Y B
  pad : padsE x k = true
theorem w_shelf_entries {x : List Nat} (hx : Sc256 x) (hk0 : entOK x = false → ∀ C, A.Sub C → K (.tuple [.nilS, .bool false]) C) (hk1 : entOK x = true → ∀ u C, SlR T_api_Entry 34 u ((decE x).map enA) A C → K (.tuple [u, .bool true]) C) :
    SimX Try.prog F_shelf_entries [.iarr .u8 256 (ints x)] A (outK K Kp) := by
  have hxl := hx.1
  have hxb := hx.2
  refine j_shelf_entries (by simp) ?_
  unfold a_shelf_entries
  obtain ⟨r4, hr4⟩ : ∃ r, r = q_shelf_entries_4 := ⟨_, rfl⟩; rw [← hr4]
  obtain ⟨r13, hr13⟩ : ∃ r, r = q_shelf_entries_13 := ⟨_, rfl⟩; rw [← hr13]
  simp -implicitDefEqProofs [q_shelf_entries_0, hxl]
  intro g1 hg1
  obtain ⟨Y, e1, kY, y1⟩ : ∃ Y : Heap, Y = A.set g1 (.var 54 [.iarr .u8 256 (ints x)]) ∧ A.Sub Y ∧ Y g1 = some (.var T_256_uint8 [.iarr .u8 256 (ints x)]) := ⟨_, rfl, sub_none hg1, set_eq'⟩
  rw [← e1]; clear e1
  have hv := vw_arr' y1 (by simpa using hxl)
  have hh := w_crc_Holds x hxb (by omega)
  simp -implicitDefEqProofs [q_shelf_entries_1, y1, hxl]
  refine hh.call (.cons hv rfl .nil) rfl ?_
  cases hho : holdsN x with
  | false =>
    have hno : entOK x = false := by unfold entOK; rw [hho]; rfl
    simp -implicitDefEqProofs [q_shelf_entries_2, outOf]
    exact hk0 hno _ kY
  | true =>
    simp -implicitDefEqProofs [q_shelf_entries_3]
    simp -implicitDefEqProofs [hr4, q_shelf_entries_4, hxl]
    refine w_word_From (x := x) (at_ := 0) (m := 252) y1 (by decide) fun gc B hgc hc hs => ?_
    have hgc1 : ¬ g1 = gc := fun e => by rw [← e, y1] at hgc; cases hgc
    simp -implicitDefEqProofs [q_shelf_entries_5]
    refine X_lp (EsI g1 gc x Y) (fun k => 6 - k) 0 ⟨by omega, by simp, by simp, hc, by simpa using SlR.nil hs, rfl⟩ ?_
    rintro k env B ⟨lek, f5, f13, hc, hw, hpad⟩
    rw [q_shelf_entries_L13]
    obtain ⟨r8, hr8⟩ : ∃ r, r = q_shelf_entries_8 := ⟨_, rfl⟩; rw [← hr8]
    obtain ⟨r9, hr9⟩ : ∃ r, r = q_shelf_entries_9 := ⟨_, rfl⟩; rw [← hr9]
    obtain ⟨r11, hr11⟩ : ∃ r, r = q_shelf_entries_11 := ⟨_, rfl⟩; rw [← hr11]
    obtain ⟨r12, hr12⟩ : ∃ r, r = q_shelf_entries_12 := ⟨_, rfl⟩; rw [← hr12]
    simp -implicitDefEqProofs [q_shelf_entries_6, f13]
    refine ⟨fun hlt => ?_, fun hge => ?_⟩
    · have hlt6 : k < 6 := by omega
      have hf : ∀ i k, leN ((x.drop i).take k) = numAt x i k := fun i k => rfl
      obtain ⟨i, hi⟩ : ∃ i, i = 42 * k := ⟨_, rfl⟩
      have hi42 : i + 42 ≤ 252 := by omega
      rw [← hi] at hc
      have wc := numAt_lt hxb i 6
      have ws := numAt_lt hxb (i + 6) 2
      have w6 : IntKind.i64.wrap ((numAt x i 6 : Nat) : Int) = ((numAt x i 6 : Nat) : Int) := wrap_i64 (by omega)
      have w2 : IntKind.i64.wrap ((numAt x (i + 6) 2 : Nat) : Int) = ((numAt x (i + 6) 2 : Nat) : Int) := wrap_i64 (by omega)
      simp -implicitDefEqProofs [q_shelf_entries_7, f5]
      refine w_Cursor_Num hxb hxl hc (n := 6) (by omega) (by decide) fun B1 hc1 k1 => ?_
      have hw1 := SlR_past hw hgc hc.cg (fun l e => by cases e) k1
      simp -implicitDefEqProofs
      simp -implicitDefEqProofs [hr8, q_shelf_entries_8, f5, hf, w6]
      refine w_Cursor_Num hxb hxl hc1 (n := 2) (by omega) (by decide) fun B2 hc2 k2 => ?_
      have hw2 := SlR_past hw1 hgc hc1.cg (fun l e => by cases e) k2
      simp -implicitDefEqProofs [f5, hf, w2]
      refine w_Cursor_Bytes hxb hxl hc2 (n := 32) (by omega) fun g' B3 hc3 hg' hr3 k3 => ?_
      have hw3 := SlR_past hw2 hgc hc2.cg (fun l e => by cases e) k3
      have a32 : ((x.drop (i + 6 + 2)).take 32).length = 32 := by simp; omega
      simp -implicitDefEqProofs [hr3, a32]
      intro g7 hg7
      have h256 := hx
      have hi2 : i + 42 ≤ 256 := by omega
      have ea := oneE_addr hx hi2
      have es := oneE_slot hx hi2
      have ec := oneE_count hx hi2
      obtain ⟨e, he⟩ : ∃ e, e = oneE x i := ⟨_, rfl⟩
      rw [← he] at ea es ec
      have e32 := e.h32
      have hE : enA e = .agg [.iarr .u8 32 (ints e.addr), .int .i64 e.slot, .int .i64 e.count] := rfl
      have ea' : (x.drop (i + 6 + 2)).take 32 = e.addr := ea.symm
      have et : e.addr.take 32 = e.addr := List.take_of_length_le (by omega)
      rw [ea', ← es, ← ec, et]
      obtain ⟨Z, e1, kZ, z7⟩ : ∃ Z : Heap, Z = B3.set g7 (.var 32 [.iarr .u8 32 (ints e.addr), .int .i64 e.slot, .int .i64 e.count]) ∧ B3.Sub Z ∧ Z g7 = some (.var 32 [.iarr .u8 32 (ints e.addr), .int .i64 e.slot, .int .i64 e.count]) := ⟨_, rfl, sub_none hg7, set_eq'⟩
      rw [← e1]; clear e1
      have hwZ := hw3.mono kZ
      have hcZ : CurI gc g1 x (i + 6 + 2 + 32) (252 - i - 6 - 2 - 32) Z := ⟨kZ _ _ hc3.cg, kZ _ _ hc3.c1, by omega⟩
      have hn7 : g7 ≠ gc := fun e => by rw [e, hc3.cg] at hg7; cases hg7
      simp -implicitDefEqProofs [hr9, q_shelf_entries_9, f5]
      refine w_Cursor_Num hxb hxl hcZ (n := 2) (by omega) (by decide) fun B4 hc4 k4 => ?_
      have hw4 := SlR_past hwZ hgc hcZ.cg (fun l e => by cases e) k4
      have z47 := k4 _ _ hn7 z7
      have hp : padsE x (k + 1) = (padsE x k && padE x i) := by
        unfold padsE
        rw [List.range_succ, List.all_append, hi]
        simp
      have hpi : padE x i = decide (numAt x (i + 6 + 2 + 32) 2 = 0) := rfl
      obtain ⟨p, hpp⟩ : ∃ p, p = numAt x (i + 6 + 2 + 32) 2 := ⟨_, rfl⟩
      rw [hf, ← hpp]
      rw [← hpp] at hpi
      by_cases hp0 : p = 0
      · rw [hp0] at hpi ⊢
        have hpk : padsE x (k + 1) = true := by rw [hp, hpad, hpi]; rfl
        have wk : IntKind.i64.wrap ((k : Int) + 1) = ((k + 1 : Nat) : Int) := by rw [wrap_i64 (by omega)]; simp
        have hs4 := hw4.scl
        simp -implicitDefEqProofs
        simp -implicitDefEqProofs [hr11, q_shelf_entries_11, z47, e32, hs4.shp, hs4.good, hs4.comps, hs4.agg]
        intro g32 hg32
        obtain ⟨X, hYX, hXB, hwX, hoth, _⟩ := hw4.top
        have xgc := hoth gc _ hc4.cg (hw4.ne hc4.cg (fun l e => by cases e))
        have hap := fun K hk => hwX.app (K := K) (bytes := 48) (ys := [enA e]) (g1 := g32) (C := B4.set g32 (.row T_api_Entry 34 [enA e])) set_eq' rfl (sub_none hg32) hg32 (by simp; omega) hk
        have hg32' : gc ≠ g32 := fun e => by rw [← e, hc4.cg] at hg32; cases hg32
        refine hap _ fun v' C' h1 h2 => ?_
        simp -implicitDefEqProofs [h2]
        simp -implicitDefEqProofs [hr12, q_shelf_entries_12, f13, wk, -Int.natCast_add]
        refine lp_next (k + 1) ⟨by omega, by simp [f5], by simp, ?_, ?_, hpk⟩ (by omega)
        · have c1 : 42 * (k + 1) = i + 6 + 2 + 32 + 2 := by omega
          have c2 : 252 - (i + 6 + 2 + 32 + 2) = 252 - i - 6 - 2 - 32 - 2 := by omega
          rw [c1, c2]
          exact ⟨h1.sub _ _ xgc, h1.sub _ _ (hYX _ _ y1), by omega⟩
        · rw [List.range_succ, List.map_append, List.map_append]
          simp only [List.map_cons, List.map_nil]
          rw [← hi, ← he]
          exact h1.base hYX
      · have hno : entOK x = false := by
          rw [decide_eq_false hp0] at hpi
          unfold entOK padsE
          have : ((List.range 6).all fun k => padE x (42 * k)) = false := by
            rw [List.all_eq_false]
            exact ⟨k, by simpa using hlt6, by rw [← hi, hpi]; simp⟩
          rw [this]
          simp
        simp -implicitDefEqProofs [hp0]
        simp -implicitDefEqProofs [q_shelf_entries_10, outOf]
        exact hk0 hno _ (sub_tr kY hw4.sub)
    · have hk6 : k = 6 := by omega
      subst hk6
      have hok : entOK x = true := by unfold entOK; rw [hho, hpad]; rfl
      have hsw := hw.scl
      simp -implicitDefEqProofs [hr13, q_shelf_entries_13, f5]
      refine w_Cursor_Rest hxl hc ?_
      simp -implicitDefEqProofs [hsw.shp, hsw.good, hsw.comps, hsw.agg, outOf, zeroB]
      exact hk1 hok _ _ (hw.base kY)
end
end Go.Proofs.Ytilgdnbijkcboaa

/- The walk of the chapter's one. -/
namespace Go.Proofs.Ytilgdnbijkcboaa
open Go AVL
attribute [-simp] AV.isAgg aappI aapp alen szOK aslc List.reduceReplicate
attribute [simp] shp good comps
set_option linter.unusedVariables false
set_option linter.unusedSimpArgs false
set_option maxRecDepth 8000

theorem numAt_cons {x : List Nat} {i k : Nat} (h : i < x.length) : numAt x i (k + 1) = x[i] + 256 * numAt x (i + 1) k := by
  unfold numAt
  rw [List.drop_eq_getElem_cons h, List.take_succ_cons]
  rfl
structure OnI (g2 g4 g5 : Nat) (x : List Nat) (at_ j : Nat) (env : AEnv) (B : Heap) : Prop where
  le : j ≤ 6
  e1 : env 1 = .int .i64 at_
  e2 : env 2 = .ptr g2 0
  e4 : env 4 = .ptr g4 0
  e5 : env 5 = .ptr g5 0
  e6 : env 6 = .int .i64 ((j : Int) - 1)
  b2 : B g2 = some (.var 54 [.iarr .u8 256 (ints x)])
  b4 : B g4 = some (.var 32 [.iarr .u8 32 (List.replicate 32 0), .int .i64 0, .int .i64 0])
  b5 : B g5 = some (.var 32 [.iarr .u8 32 (List.replicate 32 0), .int .i64 0, .int .i64 (numAt x (at_ + j) (6 - j) : Nat)])
def adrL (x : List Nat) (at_ k : Nat) : List Nat := (x.drop (at_ + 8)).take k ++ List.replicate (32 - k) 0
theorem adrL_set {x : List Nat} {at_ k : Nat} (hk : k < 32) (h : at_ + 8 + k < x.length) : (adrL x at_ k).set k (x[at_ + 8 + k]) = adrL x at_ (k + 1) := by
  unfold adrL
  have hl : ((x.drop (at_ + 8)).take k).length = k := by simp; omega
  have h1 : k < (x.drop (at_ + 8)).length := by rw [List.length_drop]; omega
  rw [List.set_append_right k (x[at_ + 8 + k]) (show ((x.drop (at_ + 8)).take k).length ≤ k by omega), hl, Nat.sub_self, show 32 - k = (32 - (k + 1)) + 1 by omega, List.replicate_succ, List.set_cons_zero, List.take_succ_eq_append_getElem h1, List.getElem_drop, List.append_assoc]
  rfl
theorem adrL_len {x : List Nat} {at_ k : Nat} (hk : k ≤ 32) (h : at_ + 8 + k ≤ x.length) : (adrL x at_ k).length = 32 := by
  unfold adrL; simp; omega
structure OnJ (g2 g4 g5 : Nat) (x : List Nat) (at_ k : Nat) (env : AEnv) (B : Heap) : Prop where
  le : k ≤ 32
  e1 : env 1 = .int .i64 at_
  e2 : env 2 = .ptr g2 0
  e4 : env 4 = .ptr g4 0
  e5 : env 5 = .ptr g5 0
  e7 : env 7 = .int .i64 k
  b2 : B g2 = some (.var 54 [.iarr .u8 256 (ints x)])
  b4 : B g4 = some (.var 32 [.iarr .u8 32 (List.replicate 32 0), .int .i64 0, .int .i64 0])
  b5 : B g5 = some (.var 32 [.iarr .u8 32 (ints (adrL x at_ k)), .int .i64 (numAt x (at_ + 6) 2 : Nat), .int .i64 (numAt x at_ 6 : Nat)])
theorem w_ref12_one {x : List Nat} (hx : Sc256 x) {at_ : Nat} (ha : at_ + 42 ≤ 256) : Gives Try.prog F_ref12_one [.iarr .u8 256 (ints x), .int .i64 at_] (enA (oneE x at_)) := by
  have hxl := hx.1
  have hxb := hx.2
  refine v_ref12_one (by simp) ?_
  unfold a_ref12_one
  obtain ⟨r6, hr6⟩ : ∃ r, r = q_ref12_one_6 := ⟨_, rfl⟩; rw [← hr6]
  obtain ⟨r11, hr11⟩ : ∃ r, r = q_ref12_one_11 := ⟨_, rfl⟩; rw [← hr11]
  simp -implicitDefEqProofs [q_ref12_one_0, hxl]
  intro g2 g4 n1 n2
  simp -implicitDefEqProofs [q_ref12_one_1, n1, n2]
  intro g5 m1 m2 m3 m4
  obtain ⟨Y, hY⟩ : ∃ Y, Y = ((H0.set g2 (.var 54 [.iarr .u8 256 (ints x)])).set g4 (.var 32 [.iarr .u8 32 (List.replicate 32 0), .int .i64 0, .int .i64 0])).set g5 (.var 32 [.iarr .u8 32 (List.replicate 32 0), .int .i64 0, .int .i64 0]) := ⟨_, rfl⟩
  try simp only [← hY]
  have n42 : ¬ g4 = g2 := by first | exact n1 | exact n2
  have n24 : ¬ g2 = g4 := by first | exact n1 | exact n2
  have y5 : Y g5 = some (.var 32 [.iarr .u8 32 (List.replicate 32 0), .int .i64 0, .int .i64 0]) := by rw [hY, set_eq']
  have y2 : Y g2 = some (.var 54 [.iarr .u8 256 (ints x)]) := by rw [hY]; simp [*]
  have y4 : Y g4 = some (.var 32 [.iarr .u8 32 (List.replicate 32 0), .int .i64 0, .int .i64 0]) := by rw [hY]; simp [*]
  have k45 : ¬ g4 = g5 := by first | exact m1 | exact m2 | exact m3 | exact m4
  clear hY m1 m2 m3 m4
  have k25 : ¬ g2 = g5 := fun e => by rw [e, y5] at y2; cases y2
  have k54 : ¬ g5 = g4 := fun e => k45 e.symm
  have k52 : ¬ g5 = g2 := fun e => k25 e.symm
  simp -implicitDefEqProofs [q_ref12_one_2]
  refine X_lp (OnI g2 g4 g5 x at_) (fun j => j) 6 ⟨by omega, by simp, by simp, by simp, by simp, by simp, y2, y4, by simpa [numAt, leN] using y5⟩ ?_
  rintro j env B ⟨lej, f1, f2, f4, f5, f6, b2, b4, b5⟩
  rw [q_ref12_one_L6]
  simp -implicitDefEqProofs [q_ref12_one_3, f6]
  refine ⟨fun hge => ?_, fun hlt => ?_⟩
  · obtain ⟨i, rfl⟩ : ∃ i, j = i + 1 := ⟨j - 1, by omega⟩
    have e0 : ((i + 1 : Nat) : Int) - 1 = i := by omega
    rw [e0] at f6
    have hxi : at_ + i < x.length := by omega
    obtain ⟨v, hv⟩ : ∃ v, v = x[at_ + i] := ⟨_, rfl⟩
    have hvb : v < 256 := by rw [hv]; exact hxb _ (List.getElem_mem hxi)
    have hstep : numAt x (at_ + i) (6 - i) = v + 256 * numAt x (at_ + (i + 1)) (6 - (i + 1)) := by
      rw [show 6 - i = (6 - (i + 1)) + 1 by omega, numAt_cons hxi, hv]; rfl
    have hlt5 : numAt x (at_ + (i + 1)) (6 - (i + 1)) < 256 ^ 5 := by
      have h1 := numAt_lt hxb (at_ + (i + 1)) (6 - (i + 1))
      have h2 : 256 ^ (6 - (i + 1)) ≤ 256 ^ 5 := Nat.pow_le_pow_right (by decide) (by omega)
      omega
    obtain ⟨u, hu⟩ : ∃ u, u = numAt x (at_ + (i + 1)) (6 - (i + 1)) := ⟨_, rfl⟩
    rw [← hu] at hstep hlt5 b5
    have w1 : IntKind.i64.wrap ((u : Int) * 256) = (u : Int) * 256 := wrap_i64 (by omega)
    have w2 : IntKind.i64.wrap ((at_ : Int) + (i : Int)) = ((at_ + i : Nat) : Int) := by rw [wrap_i64 (by omega)]; omega
    have w3 : IntKind.i64.wrap (v : Int) = (v : Int) := wrap_i64 (by omega)
    have w4 : IntKind.i64.wrap ((u : Int) * 256 + (v : Int)) = ((v + 256 * u : Nat) : Int) := by rw [wrap_i64 (by omega)]; omega
    have w5 : IntKind.i64.wrap ((i : Int) - 1) = (i : Int) - 1 := wrap_i64 (by omega)
    have hgd : x[at_ + i]?.getD 0 = v := by rw [List.getElem?_eq_getElem hxi, hv]; rfl
    obtain ⟨p, hp⟩ : ∃ p, p = at_ + i := ⟨_, rfl⟩
    rw [← hp] at w2 hgd hstep
    have hpi : (p : Int) < 256 := by omega
    have hpi2 : p < 256 := by omega
    obtain ⟨S, hS⟩ : ∃ S, S = v + 256 * u := ⟨_, rfl⟩
    rw [← hS] at w4 hstep
    obtain ⟨r5, hr5⟩ : ∃ r, r = q_ref12_one_5 := ⟨_, rfl⟩; rw [← hr5]
    simp -implicitDefEqProofs [q_ref12_one_4, f1, f2, f5, f6, b2, b5, hxl, w1, w2, w3, w4, hpi, hpi2, hgd]
    simp -implicitDefEqProofs [hr5, q_ref12_one_5, f6, w5]
    refine lp_next i ⟨by omega, by simp [f1], by simp [f2], by simp [f4], by simp [f5], by simp, by simp [k25, k52, b2], by simp [k45, k54, b4], ?_⟩ (by omega)
    rw [← hp, hstep]
    have hvp : x[p]'(by omega) = v := by rw [hv]; congr
    simp [hvp, w3, w4]
  · have hj0 : j = 0 := by omega
    subst hj0
    have ha6 : at_ + 6 < x.length := by omega
    have ha7 : at_ + 7 < x.length := by omega
    obtain ⟨p, hp⟩ : ∃ p, p = x[at_ + 6] := ⟨_, rfl⟩
    obtain ⟨q, hq⟩ : ∃ q, q = x[at_ + 7] := ⟨_, rfl⟩
    have hpb : p < 256 := by rw [hp]; exact hxb _ (List.getElem_mem ha6)
    have hqb : q < 256 := by rw [hq]; exact hxb _ (List.getElem_mem ha7)
    have hpd : x[at_ + 6]?.getD 0 = p := by rw [List.getElem?_eq_getElem ha6, hp]; rfl
    have hqd : x[at_ + 7]?.getD 0 = q := by rw [List.getElem?_eq_getElem ha7, hq]; rfl
    have hsl : numAt x (at_ + 6) 2 = p + 256 * q := by
      rw [numAt_cons (k := 1) ha6, numAt_cons (k := 0) ha7, hp, hq]
      simp [numAt, leN]
    have w1 : IntKind.i64.wrap ((at_ : Int) + 6) = ((at_ + 6 : Nat) : Int) := by rw [wrap_i64 (by omega)]; omega
    have w2 : IntKind.i64.wrap ((at_ : Int) + 7) = ((at_ + 7 : Nat) : Int) := by rw [wrap_i64 (by omega)]; omega
    have w3 : IntKind.i64.wrap (p : Int) = (p : Int) := wrap_i64 (by omega)
    have w4 : IntKind.i64.wrap (q : Int) = (q : Int) := wrap_i64 (by omega)
    have w5 : IntKind.i64.wrap (256 * (q : Int)) = 256 * (q : Int) := wrap_i64 (by omega)
    have w6 : IntKind.i64.wrap ((p : Int) + 256 * (q : Int)) = ((p + 256 * q : Nat) : Int) := by rw [wrap_i64 (by omega)]; omega
    obtain ⟨i6, h6⟩ : ∃ i, i = at_ + 6 := ⟨_, rfl⟩
    obtain ⟨i7, h7⟩ : ∃ i, i = at_ + 7 := ⟨_, rfl⟩
    rw [← h6] at w1 hpd hsl
    rw [← h7] at w2 hqd
    have c6 : (i6 : Int) < 256 := by omega
    have c7 : (i7 : Int) < 256 := by omega
    have c6' : i6 < 256 := by omega
    have c7' : i7 < 256 := by omega
    obtain ⟨S, hS⟩ : ∃ S, S = p + 256 * q := ⟨_, rfl⟩
    rw [← hS] at w6 hsl
    obtain ⟨C, hC⟩ : ∃ C, C = numAt x (at_ + 0) (6 - 0) := ⟨_, rfl⟩
    rw [← hC] at b5
    simp -implicitDefEqProofs [hr6, q_ref12_one_6, f1, f2, f5, b2, b5, hxl, w1, w2, w3, w4, w5, w6, c6, c7, c6', c7', hpd, hqd]
    simp -implicitDefEqProofs [q_ref12_one_7]
    have hC' : C = numAt x at_ 6 := hC
    refine X_lp (OnJ g2 g4 g5 x at_) (fun k => 32 - k) 0 ⟨by omega, by simp [f1], by simp [f2], by simp [f4], by simp [f5], by simp, by simp [k25, k52, b2], by simp [k45, k54, b4], ?_⟩ ?_
    · rw [← h6, hsl, ← hC']
      have h1 : x[i6]'(by omega) = p := by rw [hp]; congr
      have h2 : x[i7]'(by omega) = q := by rw [hq]; congr
      simp [adrL, ints, h1, h2, w3, w4, w5, w6]
    · clear b2 b4 b5 f1 f2 f4 f5 f6
      rintro k env B ⟨lek, f1, f2, f4, f5, f7, b2, b4, b5⟩
      rw [q_ref12_one_L11]
      simp -implicitDefEqProofs [q_ref12_one_8, f7]
      refine ⟨fun hlt => ?_, fun hge => ?_⟩
      · have hxi : at_ + 8 + k < x.length := by omega
        obtain ⟨v, hv⟩ : ∃ v, v = x[at_ + 8 + k] := ⟨_, rfl⟩
        have hvd : x[at_ + 8 + k]?.getD 0 = v := by rw [List.getElem?_eq_getElem hxi, hv]; rfl
        have hset := adrL_set (x := x) (at_ := at_) (k := k) (by omega) hxi
        rw [← hv] at hset
        have hal := adrL_len (x := x) (at_ := at_) (k := k) lek (by omega)
        have u1 : IntKind.i64.wrap ((at_ : Int) + 8) = (at_ : Int) + 8 := wrap_i64 (by omega)
        have u2 : IntKind.i64.wrap ((at_ : Int) + 8 + (k : Int)) = ((at_ + 8 + k : Nat) : Int) := by rw [wrap_i64 (by omega)]; omega
        have u3 : IntKind.i64.wrap ((k : Int) + 1) = ((k + 1 : Nat) : Int) := by rw [wrap_i64 (by omega)]; omega
        obtain ⟨i, hi⟩ : ∃ i, i = at_ + 8 + k := ⟨_, rfl⟩
        rw [← hi] at u2 hvd
        have ci : (i : Int) < 256 := by omega
        have ci' : i < 256 := by omega
        have ck : (k : Int) < 32 := by omega
        have ck' : k < 32 := by omega
        obtain ⟨M, hM⟩ : ∃ M, M = adrL x at_ k := ⟨_, rfl⟩
        rw [← hM] at b5 hal hset
        obtain ⟨r10, hr10⟩ : ∃ r, r = q_ref12_one_10 := ⟨_, rfl⟩; rw [← hr10]
        simp -implicitDefEqProofs [q_ref12_one_9, f1, f2, f5, f7, b2, b5, hxl, hal, u1, u2, ci, ci', ck, ck', hvd]
        simp -implicitDefEqProofs [hr10, q_ref12_one_10, f7, u3, -Int.natCast_add]
        refine lp_next (k + 1) ⟨by omega, by simp [f1], by simp [f2], by simp [f4], by simp [f5], by simp, by simp [k25, k52, b2], by simp [k45, k54, b4], ?_⟩ (by omega)
        rw [← hset]
        have h1 : x[i]'(by omega) = v := by rw [hv]; congr
        simp [h1]
      · have hk32 : k = 32 := by omega
        subst hk32
        have ea := oneE_addr hx ha
        have es := oneE_slot hx ha
        have ec := oneE_count hx ha
        have hE : enA (oneE x at_) = .agg [.iarr .u8 32 (ints (oneE x at_).addr), .int .i64 (oneE x at_).slot, .int .i64 (oneE x at_).count] := rfl
        rw [ea, es, ec] at hE
        have had : adrL x at_ 32 = (x.drop (at_ + 8)).take 32 := by simp [adrL]
        rw [had] at b5
        have hll : ((x.drop (at_ + 8)).take 32).length = 32 := by simp; omega
        rw [hE]
        simp -implicitDefEqProofs [hr11, q_ref12_one_11, f4, f5, b4, b5, hll, outOf]
end Go.Proofs.Ytilgdnbijkcboaa

/- The walk of the chapter's Sectors. -/
namespace Go.Proofs.Ytilgdnbijkcboaa
open Go AVL
attribute [-simp] AV.isAgg aappI aapp alen szOK aslc List.reduceReplicate
attribute [simp] shp good comps
set_option linter.unusedVariables false
set_option linter.unusedSimpArgs false
set_option maxRecDepth 8000

theorem SlR0 {e : TypeId} {sz : Nat} {v : AV} {m : List AV} {A B C : Heap} (h : SlR e sz v m A B) (hk : ∀ x l, B x = some (.row e sz l) → C x = some (.row e sz l)) : SlR e sz v m H0 C :=
  ⟨H0_sub _, h.own.imp id fun ⟨g, h1, _, h3⟩ => ⟨g, h1, rfl, hk _ _ h3⟩⟩
theorem drop_snoc {α : Type} {L : List α} {i m : Nat} (hi : i < L.length) (hm : m ≤ i) : (L.take (i + 1)).drop m = (L.take i).drop m ++ [L[i]] := by
  rw [List.take_succ_eq_append_getElem hi, List.drop_append_of_le_length (by simp; omega)]
structure ScI (L : List En) (i : Nat) (env : AEnv) (B : Heap) : Prop where
  le : i ≤ L.length
  e0 : env 0 = .dsl 34 (L.map enA)
  e5 : env 5 = .int .i64 i
  out : SlR T_256_uint8 256 (env 3) (scA ((secsE L).take (i / 6))) H0 B
  b : SlS T_uint8 .u8 (env 4) (ints (bytesE ((L.take i).drop (6 * (i / 6))))) H0 B
structure SdI (L : List En) (i : Nat) (o : AV) (p : List Nat) (a : List Nat) (X : Heap) (k : Nat) (env : AEnv) (B : Heap) : Prop where
  le : k ≤ 32
  e0 : env 0 = .dsl 34 (L.map enA)
  e3 : env 3 = o
  e5 : env 5 = .int .i64 i
  e6 : env 6 = .int .i64 k
  b : SlS T_uint8 .u8 (env 4) (ints (p ++ a.take k)) X B
theorem w_ref12_Sectors (L : List En) (hl : L.length < 2 ^ 30) (hp : ∀ e ∈ L, 0 ≤ e.count ∧ 0 ≤ e.slot) : MakesR Try.prog F_ref12_Sectors [.dsl 34 (L.map enA)] T_256_uint8 256 (scA (secsE L)) := by
  refine MakesR.of (j_ref12_Sectors (by simp) ?_)
  unfold a_ref12_Sectors
  obtain ⟨r16, hr16⟩ : ∃ r, r = q_ref12_Sectors_16 := ⟨_, rfl⟩; rw [← hr16]
  simp -implicitDefEqProofs [q_ref12_Sectors_0, q_ref12_Sectors_1, q_ref12_Sectors_2, q_ref12_Sectors_3]
  refine X_lp (ScI L) (fun i => L.length - i) 0 ⟨by omega, by simp, by simp, by simpa [scA] using SlR.nil (Sub_refl H0), by simpa [bytesE] using SlS.nil (Sub_refl H0)⟩ ?_
  rintro i env B ⟨lei, f0, f5, hout, hb⟩
  rw [q_ref12_Sectors_L16]
  obtain ⟨r6, hr6⟩ : ∃ r, r = q_ref12_Sectors_6 := ⟨_, rfl⟩; rw [← hr6]
  obtain ⟨r7, hr7⟩ : ∃ r, r = q_ref12_Sectors_7 := ⟨_, rfl⟩; rw [← hr7]
  obtain ⟨r11, hr11⟩ : ∃ r, r = q_ref12_Sectors_11 := ⟨_, rfl⟩; rw [← hr11]
  obtain ⟨r12, hr12⟩ : ∃ r, r = q_ref12_Sectors_12 := ⟨_, rfl⟩; rw [← hr12]
  obtain ⟨r13, hr13⟩ : ∃ r, r = q_ref12_Sectors_13 := ⟨_, rfl⟩; rw [← hr13]
  obtain ⟨r14, hr14⟩ : ∃ r, r = q_ref12_Sectors_14 := ⟨_, rfl⟩; rw [← hr14]
  obtain ⟨r15, hr15⟩ : ∃ r, r = q_ref12_Sectors_15 := ⟨_, rfl⟩; rw [← hr15]
  simp -implicitDefEqProofs [q_ref12_Sectors_4, f0, f5]
  refine ⟨fun hlt => ?_, fun hge => ?_⟩
  · have hlt' : (i : Int) < L.length := by omega
    obtain ⟨e, he⟩ : ∃ e, e = L[i] := ⟨_, rfl⟩
    have hep := hp e (by rw [he]; exact List.getElem_mem hlt)
    have e32 := e.h32
    have hc2 := e.c2
    have hs2 := e.s2
    obtain ⟨c, hc⟩ : ∃ c : Nat, e.count = c := ⟨e.count.toNat, by omega⟩
    obtain ⟨s, hs⟩ : ∃ s : Nat, e.slot = s := ⟨e.slot.toNat, by omega⟩
    have wc : IntKind.u64.wrap (c : Int) = (c : Int) := wrap_u64 (by omega)
    have ws : IntKind.u64.wrap (s : Int) = (s : Int) := wrap_u64 (by omega)
    have hE : enA L[i] = .agg [.iarr .u8 32 (ints e.addr), .int .i64 s, .int .i64 c] := by rw [← he]; unfold enA; rw [hc, hs]
    obtain ⟨G, hG⟩ : ∃ G, G = bytesE ((L.take i).drop (6 * (i / 6))) := ⟨_, rfl⟩
    have hGl : G.length = 42 * (i % 6) := by rw [hG, bytesE_len]; simp; omega
    have hGb : Bytes G := by rw [hG]; exact bytesE_bytes _
    have hdr := drop_snoc (L := L) (i := i) (m := 6 * (i / 6)) hlt (by omega)
    rw [← he] at hdr
    have hG1 : bytesE ((L.take (i + 1)).drop (6 * (i / 6))) = G ++ encE e := by rw [hdr, bytesE_snoc, hG]
    rw [← hG] at hb
    obtain ⟨X, _, hXB, hbX, hoth, _⟩ := hb.top
    have houtX : SlR T_256_uint8 256 (env 3) (scA ((secsE L).take (i / 6))) H0 X := SlR0 hout fun x l hx => hoth x _ hx (hb.ne hx (fun l e => by cases e))
    have hsb := hbX.scl
    simp -implicitDefEqProofs [q_ref12_Sectors_5, f0, f5, hlt, hlt', hsb.shp, hsb.good, hsb.comps, hsb.agg]
    rw [hE]
    simp -implicitDefEqProofs [wc]
    refine (w_ref01_Put 6 c (by omega) (by decide)).call (.cons (.refl _) rfl (.cons (.refl _) rfl .nil)) fun v1 B1 h1 => ?_
    simp -implicitDefEqProofs
    refine (hbX.mono h1.sub).appS (Sub_refl _) (h1.src (Sub_refl _)) (by simp; omega) fun w1 D1 m1 a1 => ?_
    have hs1 := m1.scl
    simp -implicitDefEqProofs [a1]
    simp -implicitDefEqProofs [hr6, q_ref12_Sectors_6, f0, f5, hlt, hlt', hs1.shp, hs1.good, hs1.comps, hs1.agg]
    rw [hE]
    simp -implicitDefEqProofs [ws]
    refine (w_ref01_Put 2 s (by omega) (by decide)).call (.cons (.refl _) rfl (.cons (.refl _) rfl .nil)) fun v2 B2 h2 => ?_
    simp -implicitDefEqProofs
    refine (m1.mono h2.sub).appS (Sub_refl _) (h2.src (Sub_refl _)) (by simp; omega) fun w2 D2 m2 a2 => ?_
    simp -implicitDefEqProofs [a2]
    simp -implicitDefEqProofs [hr7, q_ref12_Sectors_7]
    obtain ⟨p, hpp⟩ : ∃ p, p = G ++ le 6 c ++ le 2 s := ⟨_, rfl⟩
    have hpl : p.length = 42 * (i % 6) + 8 := by rw [hpp]; simp [hGl]
    refine X_lp (SdI L i (env 3) p e.addr X) (fun k => 32 - k) 0 ⟨by omega, by simp [f0], by simp, by simp [f5], by simp, ?_⟩ ?_
    · rw [hpp]
      simpa using m2
    · rintro k env' C ⟨lek, g0, g3, g5, g6, hbk⟩
      have hsk := hbk.scl
      rw [q_ref12_Sectors_L11]
      obtain ⟨r10, hr10⟩ : ∃ r, r = q_ref12_Sectors_10 := ⟨_, rfl⟩; rw [← hr10]
      simp -implicitDefEqProofs [q_ref12_Sectors_8, g6]
      refine ⟨fun hkl => ?_, fun hkg => ?_⟩
      · have hkl' : (k : Int) < 32 := by omega
        have hka : k < e.addr.length := by omega
        obtain ⟨v, hv⟩ : ∃ v, v = e.addr[k] := ⟨_, rfl⟩
        have hvd : e.addr[k]?.getD 0 = v := by rw [List.getElem?_eq_getElem hka, hv]; rfl
        have wk : IntKind.i64.wrap ((k : Int) + 1) = ((k + 1 : Nat) : Int) := by rw [wrap_i64 (by omega)]; simp
        simp -implicitDefEqProofs [q_ref12_Sectors_9, g0, g5, g6, hlt, hlt', hsk.shp, hsk.good, hsk.comps, hsk.agg]
        rw [hE]
        simp -implicitDefEqProofs [hkl, hkl', e32, hvd]
        intro g hg
        have hap := fun K hk => hbk.app (K := K) (bytes := 1) (ys := [(v : Int)]) (g1 := g) (C := C.set g (.irow T_uint8 .u8 [(v : Int)])) set_eq' (sub_none hg) hg (by simp; omega) hk
        refine hap _ fun v' C' k1 k2 => ?_
        simp -implicitDefEqProofs [k2]
        simp -implicitDefEqProofs [hr10, q_ref12_Sectors_10, g6, wk, -Int.natCast_add]
        refine lp_next (k + 1) ⟨by omega, by simp [g0], by simp [g3], by simp [g5], by simp, ?_⟩ (by omega)
        rw [List.take_succ_eq_append_getElem hka, ← hv]
        have e2 : ints (p ++ (e.addr.take k ++ [v])) = ints (p ++ e.addr.take k) ++ [(v : Int)] := by rw [← List.append_assoc]; unfold ints; rw [List.map_append]; rfl
        rw [e2]
        simpa using k1
      · have hk32 : k = 32 := by omega
        subst hk32
        rw [List.take_of_length_le (by omega)] at hbk
        simp -implicitDefEqProofs [hr11, q_ref12_Sectors_11, hsk.shp, hsk.good, hsk.comps, hsk.agg]
        intro g hg
        refine hbk.appS (ys := [0, 0]) (sub_none hg) (srcI_row set_eq' rfl) (by simp [e32]; omega) fun w3 D3 m3 a3 => ?_
        simp -implicitDefEqProofs [a3]
        have hGe : G ++ encE e = p ++ e.addr ++ [0, 0] := by
          unfold encE
          rw [hpp, hc, hs]
          simp
        have m3' : SlS T_uint8 .u8 w3 (ints (G ++ encE e)) X D3 := by
          have e2 : ints (p ++ e.addr ++ [0, 0]) = ints (p ++ e.addr) ++ [0, 0] := by unfold ints; rw [List.map_append]; rfl
          rw [hGe, e2]
          exact m3
        have houtD := houtX.mono m3.sub
        have hso := houtD.scl
        have hs3 := m3'.scl
        have wi : IntKind.i64.wrap ((i : Int) + 1) = ((i + 1 : Nat) : Int) := by rw [wrap_i64 (by omega)]; simp
        have hrem : (i : Int).tmod 6 = ((i % 6 : Nat) : Int) := rfl
        obtain ⟨q, hq⟩ : ∃ q, q = i % 6 := ⟨_, rfl⟩
        rw [← hq] at hrem hGl
        by_cases hq5 : q = 5
        · have h6 : ((L.take (i + 1)).drop (6 * (i / 6))).length = 6 := by simp; omega
          have hsec : secE ((L.drop (6 * (i / 6))).take 6) = sealN (G ++ encE e) := by
            rw [← hG1]
            unfold secE
            congr 2
            rw [List.drop_take, show i + 1 - 6 * (i / 6) = 6 by omega]
          have hjl : i / 6 < (secsE L).length := by rw [secsE_len]; omega
          have hget : (secsE L)[i / 6] = sealN (G ++ encE e) := by rw [← hsec]; simp [secsE]
          have htk : (secsE L).take ((i + 1) / 6) = (secsE L).take (i / 6) ++ [sealN (G ++ encE e)] := by
            rw [show (i + 1) / 6 = i / 6 + 1 by omega, List.take_succ_eq_append_getElem hjl, hget]
          have hbb : Bytes (G ++ encE e) := bytes_append hGb (encE_bytes e)
          have hbl : (G ++ encE e).length = 252 := by simp [hGl, hq5]
          have hsl := sealN_len (G ++ encE e)
          have hSeal := w_ref08_Sealed hbb (by omega)
          obtain ⟨S, hS⟩ : ∃ S, S = sealN (G ++ encE e) := ⟨_, rfl⟩
          rw [← hS] at hsl htk hSeal
          simp -implicitDefEqProofs [hr12, q_ref12_Sectors_12, g5, hrem, hq5]
          simp -implicitDefEqProofs [hr13, q_ref12_Sectors_13, g3, hso.shp, hso.good, hso.comps, hso.agg, hs3.shp, hs3.good, hs3.comps, hs3.agg]
          refine hSeal.call (.cons m3'.vw hs3.agg .nil) rfl ?_
          simp -implicitDefEqProofs [hsl]
          intro g25 hg25
          have hap := fun K hk => houtD.app (K := K) (bytes := 256) (ys := [scV S]) (g1 := g25) (C := D3.set g25 (.row T_256_uint8 256 [scV S])) set_eq' rfl (sub_none hg25) hg25 (by simp; omega) hk
          refine hap _ fun v' C' k1 k2 => ?_
          simp -implicitDefEqProofs [k2]
          simp -implicitDefEqProofs [hr14, q_ref12_Sectors_14]
          simp -implicitDefEqProofs [hr15, q_ref12_Sectors_15, g5, wi, -Int.natCast_add]
          refine lp_next (i + 1) ⟨by omega, by simp [g0], by simp, ?_, ?_⟩ (by omega)
          · rw [htk, scA_snoc]
            simpa using k1
          · have e0 : (L.take (i + 1)).drop (6 * ((i + 1) / 6)) = [] := List.drop_of_length_le (by simp; omega)
            rw [e0]
            simpa [bytesE] using SlS.nil (H0_sub _)
        · have hq5' : ¬ (q : Int) = 5 := by omega
          simp -implicitDefEqProofs [hr12, q_ref12_Sectors_12, g5, hrem, hq5, hq5']
          simp -implicitDefEqProofs [hr15, q_ref12_Sectors_15, g5, wi, -Int.natCast_add]
          refine lp_next (i + 1) ⟨by omega, by simp [g0], by simp, ?_, ?_⟩ (by omega)
          · rw [show (i + 1) / 6 = i / 6 by omega]
            simpa [g3] using houtD
          · rw [show (i + 1) / 6 = i / 6 by omega, hG1]
            simpa using m3'.base (H0_sub X)
  · have hil : i = L.length := by omega
    subst hil
    have hs := hout.scl
    have htk : (secsE L).take (L.length / 6) = secsE L := List.take_of_length_le (by rw [secsE_len]; omega)
    rw [htk] at hout
    simp -implicitDefEqProofs [hr16, q_ref12_Sectors_16, hs.shp, hs.good, hs.comps, hs.agg, outOf]
    exact hout
end Go.Proofs.Ytilgdnbijkcboaa

/- Tables as sectors, plainly: what is written fits, and is taken back. -/
namespace Go.Proofs.Ytilgdnbijkcboaa
open Go AVL
attribute [-simp] AV.isAgg aappI aapp alen szOK aslc List.reduceReplicate
set_option linter.unusedVariables false
set_option linter.unusedSimpArgs false
set_option maxRecDepth 8000

/-- Entries that are right. -/
def Rt (r : List En) : Prop := ∀ x ∈ r, rightE x
theorem Rt.nil : Rt [] := fun x h => by cases h
theorem Rt.put {n : Nat} {r : List En} (hr : (tS n).Rise r) (h : Rt r) (e : En) : Rt (putT n r e) := by
  unfold putT
  split
  · rename_i hc
    intro x hx
    rcases (TS.mem_putR hr).1 hx with rfl | h2
    · exact putC_pos hc
    · exact h x h2.1
  · exact h
theorem Rt.drop {n : Nat} {r : List En} (h : Rt r) (a : List Nat) : Rt (dropT n r a) := by
  unfold dropT
  split
  · exact fun x hx => h x (TS.dropR_sub.subset hx)
  · exact h
theorem tab_cases {n : Nat} {L r : List En} (hT : (tS n).Tab L r) {e : En} (he : e ∈ L) : e = enZ ∨ e ∈ r := by
  obtain ⟨i, hi, rfl⟩ := List.getElem_of_mem he
  have hl : L.length = n + 1 := hT.len
  have hfn : (tS n).fn L i = L[i] := TS.fn_get hi
  cases hem : (tS n).emp ((tS n).fn L i) with
  | true => exact .inl (hfn ▸ hT.zero i (by show i < n + 1; omega) hem)
  | false => exact .inr (hfn ▸ hT.mem (by show i < n + 1; omega) hem)
theorem tab_fit {n : Nat} {L r : List En} (hT : (tS n).Tab L r) (hr : Rt r) : ∀ e ∈ L, Fit e := fun e he => by
  rcases tab_cases hT he with rfl | h
  · exact ⟨by decide, by decide, by decide, by decide⟩
  · obtain ⟨h1, h2, h3, h4⟩ := hr e h
    exact ⟨by omega, by omega, by omega, by omega⟩
theorem tab_fit0 {n : Nat} {L r : List En} (hT : (tS n).Tab L r) (hr : Rt r) : ∀ e ∈ L, 0 ≤ e.count ∧ 0 ≤ e.slot := fun e he =>
  have h := tab_fit hT hr e he
  ⟨h.1, h.2.2.1⟩
/-- A table's places are taken back as its entries. -/
theorem ent_from {n : Nat} {L rT : List En} (hT : (tS n).Tab L rT) (hR : Rt rT) : ∀ (k i : Nat) (r : List En), i + k = L.length → Rg n r → (∀ x, x ∈ r ↔ ∃ j, j < i ∧ L[j]? = some x ∧ x.count ≠ 0) → r.length = (tS n).cnt (L.take i) →
    ∃ r', entS n (L.drop i) r = some r' ∧ Rg n r' ∧ (∀ x, x ∈ r' ↔ ∃ j, j < L.length ∧ L[j]? = some x ∧ x.count ≠ 0) ∧ r'.length = (tS n).cnt L
  | 0, i, r, hi, hrg, hmem, hlen => by
    have hie : i = L.length := by omega
    subst hie
    rw [List.take_length] at hlen
    exact ⟨r, by rw [List.drop_length]; rfl, hrg, hmem, hlen⟩
  | k + 1, i, r, hi, hrg, hmem, hlen => by
    have hil : i < L.length := by omega
    have hl : L.length = n + 1 := hT.len
    have hfn : (tS n).fn L i = L[i] := TS.fn_get hil
    obtain ⟨e, he⟩ : ∃ e, e = L[i] := ⟨_, rfl⟩
    have hge : L[i]? = some e := by rw [he]; exact List.getElem?_eq_getElem hil
    have hcs : (tS n).cnt (L.take (i + 1)) = (tS n).cnt (L.take i) + (if e.count = 0 then 0 else 1) := by
      rw [List.take_succ_eq_append_getElem hil, ← he]
      unfold TS.cnt
      rw [List.countP_append]
      congr 1
      simp only [List.countP_cons, List.countP_nil]
      by_cases hc : e.count = 0 <;> simp [tS, hc]
    have hcl : (tS n).cnt (L.take (i + 1)) ≤ (tS n).cnt L := by
      unfold TS.cnt
      exact List.Sublist.countP_le (List.take_sublist _ _)
    have hroom : (tS n).cnt L < n + 1 := by rw [hT.cn]; exact hT.room
    rw [List.drop_eq_getElem_cons hil, ← he]
    show ∃ r', (if e.count = 0 then (if e = enZ then entS n (L.drop (i + 1)) r else none) else if ∃ x ∈ r, x.addr = e.addr then none else if putC n r e = 0 then entS n (L.drop (i + 1)) ((tS n).putR e r) else none) = some r' ∧ _
    by_cases hc : e.count = 0
    · have hz : e = enZ := by
        have := hT.zero i (by show i < n + 1; omega) (by rw [hfn, ← he]; exact decide_eq_true hc)
        rw [hfn, ← he] at this
        exact this
      rw [if_pos hc, if_pos hz]
      rw [if_pos hc] at hcs
      refine ent_from hT hR k (i + 1) r (by omega) hrg (fun x => ?_) (by omega)
      rw [hmem]
      constructor
      · rintro ⟨j, hj, hx, hxc⟩
        exact ⟨j, by omega, hx, hxc⟩
      · rintro ⟨j, hj, hx, hxc⟩
        by_cases hji : j = i
        · subst hji
          rw [hge] at hx
          injection hx with hx
          subst hx
          exact absurd hc hxc
        · exact ⟨j, by omega, hx, hxc⟩
    · have her : e ∈ rT := by
        have := hT.mem (i := i) (by show i < n + 1; omega) (by rw [hfn, ← he]; exact decide_eq_false hc)
        rwa [hfn, ← he] at this
      have hno : ¬ ∃ x ∈ r, x.addr = e.addr := by
        rintro ⟨x, hx, hxa⟩
        obtain ⟨j, hj, hxj, hxc⟩ := (hmem x).1 hx
        have hjl : j < L.length := by omega
        rw [List.getElem?_eq_getElem hjl] at hxj
        injection hxj with hxj
        have hfj : (tS n).fn L j = L[j] := TS.fn_get hjl
        have := hT.dist j i (by show j < n + 1; omega) (by show i < n + 1; omega) (by rw [hfj, hxj]; exact decide_eq_false hxc) (by rw [hfn, ← he]; exact decide_eq_false hc) (by rw [hfj, hfn, hxj, ← he]; exact hxa)
        omega
      rw [if_neg hc] at hcs
      have hp : putC n r e = 0 := by
        unfold putC
        rw [if_neg (by simpa using hR e her), if_neg hno, if_neg (by omega)]
      have hpt : putT n r e = (tS n).putR e r := if_pos hp
      have hrg' := hrg.put e
      rw [hpt] at hrg'
      rw [if_neg hc, if_neg hno, if_pos hp]
      refine ent_from hT hR k (i + 1) _ (by omega) hrg' (fun x => ?_) ?_
      · rw [TS.mem_putR hrg.rise, hmem]
        constructor
        · rintro (rfl | ⟨⟨j, hj, hx, hxc⟩, _⟩)
          · exact ⟨i, by omega, hge, hc⟩
          · exact ⟨j, by omega, hx, hxc⟩
        · rintro ⟨j, hj, hx, hxc⟩
          by_cases hji : j = i
          · subst hji
            rw [hge] at hx
            injection hx with hx
            exact .inl hx.symm
          · refine .inr ⟨⟨j, by omega, hx, hxc⟩, fun hk => hno ⟨x, (hmem x).2 ⟨j, by omega, hx, hxc⟩, hk⟩⟩
      · rw [TS.len_putR hrg.rise, if_neg (show ¬ ∃ x ∈ r, (tS n).key x = (tS n).key e from hno)]
        omega
theorem ent_tab {n : Nat} {L rT : List En} (hT : (tS n).Tab L rT) (hR : Rt rT) : ∃ r, entS n L [] = some r ∧ Rg n r ∧ (∀ x, x ∈ r ↔ x ∈ rT) ∧ r.length = rT.length := by
  obtain ⟨r, h1, h2, h3, h4⟩ := ent_from hT hR L.length 0 [] (by omega) (Rg.nil n) (fun x => ⟨fun h => (by cases h), fun ⟨j, hj, _⟩ => (by omega)⟩) rfl
  refine ⟨r, h1, h2, fun x => ?_, by rw [h4]; exact hT.cn⟩
  rw [h3, ← hT.has]
  have hl : L.length = n + 1 := hT.len
  constructor
  · rintro ⟨j, hj, hx, hxc⟩
    rw [List.getElem?_eq_getElem hj] at hx
    injection hx with hx
    exact ⟨j, by show j < n + 1; omega, by rw [TS.fn_get hj]; exact hx, decide_eq_false hxc⟩
  · rintro ⟨j, hj, hx, hxe⟩
    have hj' : j < n + 1 := hj
    rw [TS.fn_get (by omega)] at hx
    exact ⟨j, by omega, by rw [List.getElem?_eq_getElem (by omega), hx], of_decide_eq_false hxe⟩
/-- Sectors that are no table's. -/
def GtBad (X : List (List Nat)) : Prop := (∃ x ∈ X, entOK x = false) ∨ OfBad (placesE X)
/-- A table's sectors are a table's. -/
theorem get_tab {n m : Nat} {L r : List En} (hT : (tS n).Tab L r) (hR : Rt r) (hm : L.length = 6 * m) : (∀ x ∈ secsE L, entOK x = true) ∧ placesE (secsE L) = L := by
  have h1 := places_secsE m hm (tab_fit hT hR)
  refine ⟨?_, h1⟩
  rw [← secsE_places (secsE_sec L), h1]
theorem ofBad_tab {n : Nat} {L r : List En} (hT : (tS n).Tab L r) (hR : Rt r) (hn : n < 406) : ¬ OfBad L := by
  have hl : L.length = n + 1 := hT.len
  rintro (h | h)
  · omega
  · obtain ⟨r', h1, h2, h3, h4⟩ := ent_tab hT hR
    obtain ⟨L', hT', hne⟩ := h n r' hl h1
    exact hne (hT'.uniq hT h3)
end Go.Proofs.Ytilgdnbijkcboaa

/- The play's own table. -/
namespace Go.Proofs.Ytilgdnbijkcboaa
open Go AVL
attribute [-simp] AV.isAgg aappI aapp alen szOK aslc List.reduceReplicate
set_option linter.unusedVariables false
set_option linter.unusedSimpArgs false
set_option maxRecDepth 8000

section
variable {A B : Heap} {K Kp : AV → Heap → Prop}
theorem Of_call {l : List En} (hl : l.length < 2 ^ 40) {v : AV} (hv : Vw B v (.dsl 34 (l.map enA))) (hva : v.isAgg = false) (hk0 : OfBad l → ∀ C, B.Sub C → K (.tuple [.nilP, .bool false]) C)
    (hk1 : ∀ n r t h C, l.length = n + 1 → n < 406 → entS n l [] = some r → TS.Tab (tS n) l r → Rg n r → B t = none → B h = none → TbI t h l r.length C → B.Sub C → K (.tuple [.ptr t 0, .bool true]) C) : SimX Try.prog F_table_Of [v] B (outK K Kp) := by
  refine SimX.alone (w_table_Of (A := H0) (K := fun w C => (OfBad l ∧ w = .tuple [.nilP, .bool false]) ∨ ∃ n r t h, w = .tuple [.ptr t 0, .bool true] ∧ l.length = n + 1 ∧ n < 406 ∧ entS n l [] = some r ∧ TS.Tab (tS n) l r ∧ Rg n r ∧ TbI t h l r.length C) (Kp := fun _ _ => False) l hl
    (fun hb C _ => .inl ⟨hb, rfl⟩) (fun n r t h C h1 h2 h3 h4 h5 _ _ h6 _ => .inr ⟨n, r, t, h, rfl, h1, h2, h3, h4, h5, h6⟩)) (.cons hv hva .nil) ?_ ?_
  · intro o C ho
    cases o with
    | ret w =>
      rcases ho with ⟨_, rfl⟩ | ⟨n, r, t, h, rfl, _⟩ <;> rfl
    | pan w => exact ho.elim
  · intro o B' C ho hs hj
    cases o with
    | ret w =>
      rcases ho with ⟨hb, rfl⟩ | ⟨n, r, t, h, rfl, h1, h2, h3, h4, h5, h6⟩
      · exact hk0 hb C hs
      · obtain ⟨t1, t2⟩ := hj t _ h6.ct rfl
        obtain ⟨k1, k2⟩ := hj h _ h6.ch (en_noFs l)
        exact hk1 n r t h C h1 h2 h3 h4 h5 t1 k1 ⟨t2, k2⟩ hs
    | pan w => exact ho.elim
end
end Go.Proofs.Ytilgdnbijkcboaa

/- The walks of shelf.Get, shelf.Changes, and of the chapter's SameImage. -/
namespace Go.Proofs.Ytilgdnbijkcboaa
open Go AVL
attribute [-simp] AV.isAgg aappI aapp alen szOK aslc List.reduceReplicate
attribute [simp] shp good comps
set_option linter.unusedVariables false
set_option linter.unusedSimpArgs false
set_option maxRecDepth 8000

theorem scA_getE {L : List (List Nat)} {i : Nat} (h : i < (scA L).length) : (scA L)[i] = .iarr .u8 256 (ints (L[i]'(by simpa using h))) := by simp [scA, scV]
theorem sc_eq {a b : List Nat} (ha : Sc256 a) (hb : Sc256 b) : eqI 256 (ints a) (ints b) = (a == b) := eqI_ints ha.1 hb.1
theorem beq_takeX {α : Type} {a b : List α} (hl : a.length = b.length) : a.take a.length = b.take a.length ↔ a = b := by
  rw [List.take_length, hl, List.take_length]
theorem take_succ_eqX {α : Type} {a b : List α} {i : Nat} (ha : i < a.length) (hb : i < b.length) : (a.take (i + 1) = b.take (i + 1)) ↔ (a.take i = b.take i ∧ a[i] = b[i]) := by
  rw [List.take_succ_eq_append_getElem ha, List.take_succ_eq_append_getElem hb]
  constructor
  · intro h
    have := List.append_inj' h rfl
    exact ⟨this.1, by simpa using this.2⟩
  · rintro ⟨h1, h2⟩; rw [h1, h2]
theorem w_ref06_SameImg {L M : List (List Nat)} (hL : ∀ s ∈ L, Sc256 s) (hM : ∀ s ∈ M, Sc256 s) (hl : L.length < 2 ^ 40) : Gives Try.prog F_ref06_SameImage [.dsl 256 (scA L), .dsl 256 (scA M)] (.bool (decide (L = M))) := by
  refine v_ref06_SameImage (by simp) ?_
  by_cases hlen : L.length = M.length
  · have hlen' : (L.length : Int) = M.length := by omega
    simp -implicitDefEqProofs [a_ref06_SameImage, q_ref06_SameImage_0, q_ref06_SameImage_1, q_ref06_SameImage_3, hlen, hlen']
    refine X_lp (fun (i : Nat) env X => i ≤ L.length ∧ env 0 = .dsl 256 (scA L) ∧ env 1 = .dsl 256 (scA M) ∧ env 5 = .int .i64 i ∧ L.take i = M.take i) (fun i => L.length - i) 0
      ⟨by omega, by simp, by simp, by simp, by simp⟩ ?_
    rintro i env X ⟨hi, e0, e1, e5, he⟩
    by_cases hil : i < L.length
    · have hil' : (i : Int) < L.length := by omega
      have him : i < M.length := by omega
      have wi : IntKind.i64.wrap ((i : Int) + 1) = (i : Int) + 1 := wrap_i64 (by omega)
      have heq := sc_eq (hL _ (List.getElem_mem hil)) (hM _ (List.getElem_mem him))
      have hts := take_succ_eqX hil him
      by_cases hb : L[i] = M[i]
      · have heq' : eqI 256 (ints L[i]) (ints M[i]) = true := by rw [heq]; simpa using hb
        simp -implicitDefEqProofs [q_ref06_SameImage_L8, q_ref06_SameImage_4, q_ref06_SameImage_5, q_ref06_SameImage_7, e0, e1, e5, hil, hil', him, scA_getE, heq', wi]
        exact lp_next (i + 1) ⟨by omega, by simp [e0], by simp [e1], by simp, hts.2 ⟨he, hb⟩⟩ (by omega)
      · have heq' : eqI 256 (ints L[i]) (ints M[i]) = false := by rw [heq]; simpa using hb
        have hne : ¬ L = M := fun e => by subst e; exact hb rfl
        simp -implicitDefEqProofs [q_ref06_SameImage_L8, q_ref06_SameImage_4, q_ref06_SameImage_5, q_ref06_SameImage_6, e0, e1, e5, hil, hil', him, scA_getE, heq', outOf, hne]
    · have hie : i = L.length := by omega
      subst hie
      have := (beq_takeX hlen).1 he
      simp -implicitDefEqProofs [q_ref06_SameImage_L8, q_ref06_SameImage_4, q_ref06_SameImage_8, e0, e5, outOf, this]
  · have hlen' : ¬ (L.length : Int) = M.length := by omega
    have hne : ¬ L = M := fun e => hlen (by rw [e])
    simp -implicitDefEqProofs [a_ref06_SameImage, q_ref06_SameImage_0, q_ref06_SameImage_1, q_ref06_SameImage_2, hlen', hne, outOf]
/-- Changes: sectors, one behind the other. -/
def chV (a : Int) (x : List Nat) : AV := .agg [.int .i64 a, .iarr .u8 256 (ints x)]
def chA (from_ : Int) (X : List (List Nat)) : List AV := (List.range X.length).map fun (i : Nat) => chV (from_ + (i : Int)) (X.getD i [])
@[simp] theorem chA_len (f : Int) (X : List (List Nat)) : (chA f X).length = X.length := by simp [chA]
theorem chA_take {f : Int} {X : List (List Nat)} {i : Nat} (hi : i < X.length) : (chA f X).take (i + 1) = (chA f X).take i ++ [chV (f + i) X[i]] := by
  have hl : i < (chA f X).length := by simpa using hi
  rw [List.take_succ_eq_append_getElem hl]
  congr 2
  simp [chA, hi]
section
variable {A : Heap} {K Kp : AV → Heap → Prop} {t h : Nat} {L : List En} {k : Int}
structure CgI (X : List (List Nat)) (from_ : Int) (vs : AV) (Y : Heap) (i : Nat) (env : AEnv) (B : Heap) : Prop where
  le : i ≤ X.length
  e1 : env 1 = .int .i64 from_
  e19 : env 19 = vs
  e20 : env 20 = .int .i64 X.length
  e21 : env 21 = .int .i64 i
  w : SlR T_api_Change 257 (env 8) ((chA from_ X).take i) Y B
theorem w_shelf_Changes {m : Nat} (hi : TbI t h L k A) (hl : L.length = 6 * m) (hm : 0 < m) (hm2 : m < 2 ^ 30) (hp : ∀ e ∈ L, 0 ≤ e.count ∧ 0 ≤ e.slot) {from_ : Int} (hf0 : 0 ≤ from_) (hf : from_ < 2 ^ 41)
    (hk : ∀ u C, SlR T_api_Change 257 u (chA from_ (secsE L)) A C → K (.tuple [u, .int .i64 0]) C) : SimX Try.prog F_shelf_Changes [.ptr t 0, .int .i64 from_] A (outK K Kp) := by
  refine j_shelf_Changes (by simp) ?_
  unfold a_shelf_Changes
  have hsl : (secsE L).length = m := by rw [secsE_len, hl]; omega
  obtain ⟨r10, hr10⟩ : ∃ r, r = q_shelf_Changes_10 := ⟨_, rfl⟩; rw [← hr10]
  simp -implicitDefEqProofs [q_shelf_Changes_0, q_shelf_Changes_1]
  refine w_shelf_Put hi hl hm hm2 hp fun v Y hv => ?_
  obtain ⟨X, hX⟩ : ∃ X, X = secsE L := ⟨_, rfl⟩
  rw [← hX] at hv hsl hk
  obtain ⟨gl, hgl, gA, gY⟩ := hv.pos (by simp [hsl]; omega)
  rw [scA_len] at hgl
  subst hgl
  simp -implicitDefEqProofs [q_shelf_Changes_2]
  simp -implicitDefEqProofs [q_shelf_Changes_4, q_shelf_Changes_5]
  refine X_lp (CgI X from_ (.own gl 0 X.length) Y) (fun i => X.length - i) 0 ⟨by omega, by simp, by simp, by simp, by simp, by simpa using SlR.nil (Sub_refl Y)⟩ ?_
  rintro i env B ⟨lei, e1, e19, e20, e21, hw⟩
  have gB := hw.sub _ _ gY
  have hs := hw.scl
  rw [q_shelf_Changes_L10]
  obtain ⟨r8, hr8⟩ : ∃ r, r = q_shelf_Changes_8 := ⟨_, rfl⟩; rw [← hr8]
  obtain ⟨r9, hr9⟩ : ∃ r, r = q_shelf_Changes_9 := ⟨_, rfl⟩; rw [← hr9]
  simp -implicitDefEqProofs [q_shelf_Changes_6, e20, e21]
  refine ⟨fun hlt => ?_, fun hge => ?_⟩
  · have hlt' : i < X.length := by omega
    have hx256 : X[i].length = 256 := by
      have : X[i] ∈ secsE L := by rw [← hX]; exact List.getElem_mem hlt'
      exact (secsE_sec L _ this).1
    have htk := chA_take (f := from_) hlt'
    have wi : IntKind.i64.wrap ((i : Int) + 1) = ((i + 1 : Nat) : Int) := by rw [wrap_i64 (by omega)]; simp
    have wf : IntKind.i64.wrap (from_ + (i : Int)) = from_ + (i : Int) := wrap_i64 (by omega)
    obtain ⟨x, hx⟩ : ∃ x, x = X[i] := ⟨_, rfl⟩
    have hxe : (scA X)[i]'(by simpa using hlt') = .iarr .u8 256 (ints x) := by rw [scA_getE, hx]
    rw [← hx] at hx256 htk
    simp -implicitDefEqProofs [q_shelf_Changes_7, e19, e20, e21, gB, hlt, hlt', hxe]
    intro g10 hg10
    obtain ⟨Z, e1', kZ, z10⟩ : ∃ Z : Heap, Z = B.set g10 (.var 54 [.iarr .u8 256 (ints x)]) ∧ B.Sub Z ∧ Z g10 = some (.var 54 [.iarr .u8 256 (ints x)]) := ⟨_, rfl, sub_none hg10, set_eq'⟩
    rw [← e1']; clear e1'
    have hwZ := hw.mono kZ
    simp -implicitDefEqProofs [hr8, q_shelf_Changes_8, e1, z10, wf, hx256, hs.shp, hs.good, hs.comps, hs.agg]
    intro g32 hg32
    have hap := fun K hk => hwZ.app (K := K) (bytes := 264) (ys := [chV (from_ + i) x]) (g1 := g32) (C := Z.set g32 (.row T_api_Change 257 [chV (from_ + i) x])) set_eq' rfl (sub_none hg32) hg32 (by simp; omega) hk
    refine hap _ fun v' C' h1 h2 => ?_
    simp -implicitDefEqProofs [h2]
    simp -implicitDefEqProofs [hr9, q_shelf_Changes_9, e21, wi, -Int.natCast_add]
    refine lp_next (i + 1) ⟨by omega, by simp [e1], by simp [e19], by simp [e20], by simp, ?_⟩ (by omega)
    rw [htk]
    simpa using h1
  · have hie : i = X.length := by omega
    subst hie
    rw [List.take_of_length_le (by simp)] at hw
    simp -implicitDefEqProofs [hr10, q_shelf_Changes_10, hs.shp, hs.good, hs.comps, hs.agg, outOf]
    exact hk _ _ (hw.base hv.sub)
structure GtI (X : List (List Nat)) (A : Heap) (i : Nat) (env : AEnv) (B : Heap) : Prop where
  le : i ≤ X.length
  e19 : env 19 = .dsl 256 (scA X)
  e20 : env 20 = .int .i64 X.length
  e21 : env 21 = .int .i64 i
  ok : ∀ x ∈ X.take i, entOK x = true
  w : SlR T_api_Entry 34 (env 4) ((placesE (X.take i)).map enA) A B
theorem w_shelf_Get {X : List (List Nat)} (hX : ∀ x ∈ X, Sc256 x) (hk0 : X.length < 1 ∨ 67 < X.length → K (.tuple [.nilP, .int .i64 2]) A) (hk1 : 1 ≤ X.length → X.length ≤ 67 → GtBad X → ∀ C, A.Sub C → K (.tuple [.nilP, .int .i64 5]) C)
    (hk2 : ∀ n r t h C, 1 ≤ X.length → 6 * X.length = n + 1 → n < 406 → (∀ x ∈ X, entOK x = true) → entS n (placesE X) [] = some r → TS.Tab (tS n) (placesE X) r → Rg n r → A t = none → A h = none → TbI t h (placesE X) r.length C → A.Sub C → K (.tuple [.ptr t 0, .int .i64 0]) C) :
    SimX Try.prog F_shelf_Get [.dsl 256 (scA X)] A (outK K Kp) := by
  refine j_shelf_Get (by simp) ?_
  unfold a_shelf_Get
  by_cases h1 : X.length < 1
  · have h1' : (X.length : Int) < 1 := by omega
    simp -implicitDefEqProofs [q_shelf_Get_0, q_shelf_Get_1, q_shelf_Get_2, h1', outOf]
    exact hk0 (.inl h1)
  by_cases h2 : 67 < X.length
  · have h1' : ¬ (X.length : Int) < 1 := by omega
    have h2' : (67 : Int) < X.length := by omega
    simp -implicitDefEqProofs [q_shelf_Get_0, q_shelf_Get_1, q_shelf_Get_2, h1', h2', outOf]
    exact hk0 (.inr h2)
  have h1' : ¬ (X.length : Int) < 1 := by omega
  have h2' : ¬ (67 : Int) < X.length := by omega
  obtain ⟨r12, hr12⟩ : ∃ r, r = q_shelf_Get_12 := ⟨_, rfl⟩; rw [← hr12]
  obtain ⟨r13, hr13⟩ : ∃ r, r = q_shelf_Get_13 := ⟨_, rfl⟩; rw [← hr13]
  obtain ⟨r14, hr14⟩ : ∃ r, r = q_shelf_Get_14 := ⟨_, rfl⟩; rw [← hr14]
  obtain ⟨r15, hr15⟩ : ∃ r, r = q_shelf_Get_15 := ⟨_, rfl⟩; rw [← hr15]
  simp -implicitDefEqProofs [q_shelf_Get_0, q_shelf_Get_1, h1', h2']
  simp -implicitDefEqProofs [q_shelf_Get_3, q_shelf_Get_4]
  refine X_lp (GtI X A) (fun i => X.length - i) 0 ⟨by omega, by simp, by simp, by simp, by simp, by simpa [placesE] using SlR.nil (Sub_refl A)⟩ ?_
  rintro i env B ⟨lei, e19, e20, e21, hok, hw⟩
  have hs := hw.scl
  rw [q_shelf_Get_L12]
  obtain ⟨r7, hr7⟩ : ∃ r, r = q_shelf_Get_7 := ⟨_, rfl⟩; rw [← hr7]
  obtain ⟨r8, hr8⟩ : ∃ r, r = q_shelf_Get_8 := ⟨_, rfl⟩; rw [← hr8]
  obtain ⟨r9, hr9⟩ : ∃ r, r = q_shelf_Get_9 := ⟨_, rfl⟩; rw [← hr9]
  obtain ⟨r10, hr10⟩ : ∃ r, r = q_shelf_Get_10 := ⟨_, rfl⟩; rw [← hr10]
  obtain ⟨r11, hr11⟩ : ∃ r, r = q_shelf_Get_11 := ⟨_, rfl⟩; rw [← hr11]
  simp -implicitDefEqProofs [q_shelf_Get_5, e20, e21]
  refine ⟨fun hlt => ?_, fun hge => ?_⟩
  · have hlt' : i < X.length := by omega
    have hxs := hX _ (List.getElem_mem hlt')
    have hxm : X[i] ∈ X := List.getElem_mem hlt'
    have wi : IntKind.i64.wrap ((i : Int) + 1) = ((i + 1 : Nat) : Int) := by rw [wrap_i64 (by omega)]; simp
    have htk : X.take (i + 1) = X.take i ++ [X[i]] := List.take_succ_eq_append_getElem hlt'
    obtain ⟨x, hx⟩ : ∃ x, x = X[i] := ⟨_, rfl⟩
    have hxe : (scA X)[i]'(by simpa using hlt') = .iarr .u8 256 (ints x) := by rw [scA_getE, hx]
    rw [← hx] at hxs hxm htk
    have hxl := hxs.1
    simp -implicitDefEqProofs [q_shelf_Get_6, e19, e20, e21, hlt, hlt', hxe]
    intro g6 hg6
    obtain ⟨Z, e1', kZ, z6⟩ : ∃ Z : Heap, Z = B.set g6 (.var 54 [.iarr .u8 256 (ints x)]) ∧ B.Sub Z ∧ Z g6 = some (.var 54 [.iarr .u8 256 (ints x)]) := ⟨_, rfl, sub_none hg6, set_eq'⟩
    rw [← e1']; clear e1'
    have hwZ := hw.mono kZ
    simp -implicitDefEqProofs [hr7, q_shelf_Get_7, z6, hxl]
    refine w_shelf_entries hxs (fun hno C hsC => ?_) fun hyes u C hu => ?_
    · simp -implicitDefEqProofs [hr8, q_shelf_Get_8]
      simp -implicitDefEqProofs [hr9, q_shelf_Get_9, outOf]
      exact hk1 (by omega) (by omega) (.inl ⟨x, hxm, hno⟩) C (sub_tr hwZ.sub hsC)
    · have hsu := hu.scl
      simp -implicitDefEqProofs [hsu.shp, hsu.good, hsu.comps, hsu.agg]
      simp -implicitDefEqProofs [hr8, q_shelf_Get_8]
      simp -implicitDefEqProofs [hr10, q_shelf_Get_10, hsu.shp, hsu.good, hsu.comps, hsu.agg, hs.shp, hs.good, hs.comps, hs.agg]
      refine (hwZ.mono hu.sub).appS (Sub_refl _) (hu.src (Sub_refl _)) (en_sts _) (by simp [placesE_len]; omega) fun g' n C' hn h1 => ?_
      simp -implicitDefEqProofs [hr11, q_shelf_Get_11, e21, wi, -Int.natCast_add]
      refine lp_next (i + 1) ⟨by omega, by simp [e19], by simp [e20], by simp, ?_, ?_⟩ (by omega)
      · rw [htk]
        intro y hy
        rcases List.mem_append.1 hy with hy | hy
        · exact hok y hy
        · simp only [List.mem_singleton] at hy; subst hy; exact hyes
      · rw [htk, placesE_snoc, List.map_append]
        simpa using h1
  · have hie : i = X.length := by omega
    subst hie
    rw [List.take_of_length_le (Nat.le_refl _)] at hw hok
    have hpl := placesE_len X
    simp -implicitDefEqProofs [hr12, q_shelf_Get_12, hs.shp, hs.good, hs.comps, hs.agg]
    refine Of_call (l := placesE X) (by omega) hw.vw hw.agg (fun hb C hsC => ?_) fun n r t h C hn hn4 hent hT hrg ht hh hi hsC => ?_
    · simp -implicitDefEqProofs
      simp -implicitDefEqProofs [hr13, q_shelf_Get_13]
      simp -implicitDefEqProofs [hr14, q_shelf_Get_14, outOf]
      exact hk1 (by omega) (by omega) (.inr hb) C (sub_tr hw.sub hsC)
    · simp -implicitDefEqProofs
      simp -implicitDefEqProofs [hr13, q_shelf_Get_13]
      simp -implicitDefEqProofs [hr15, q_shelf_Get_15, outOf]
      exact hk2 n r t h C (by omega) (by omega) hn4 hok hent hT hrg (sub_noneL hw.sub ht) (sub_noneL hw.sub hh) hi (sub_tr hw.sub hsC)
/-- Told alone, of whatever lies so. -/
theorem Get_call {X : List (List Nat)} (hX : ∀ x ∈ X, Sc256 x) {v : AV} (hv : Vw A v (.dsl 256 (scA X))) (hva : v.isAgg = false) (hk0 : X.length < 1 ∨ 67 < X.length → ∀ C, A.Sub C → K (.tuple [.nilP, .int .i64 2]) C) (hk1 : 1 ≤ X.length → X.length ≤ 67 → GtBad X → ∀ C, A.Sub C → K (.tuple [.nilP, .int .i64 5]) C)
    (hk2 : ∀ n r t h C, 1 ≤ X.length → 6 * X.length = n + 1 → n < 406 → (∀ x ∈ X, entOK x = true) → entS n (placesE X) [] = some r → TS.Tab (tS n) (placesE X) r → Rg n r → A t = none → A h = none → TbI t h (placesE X) r.length C → A.Sub C → K (.tuple [.ptr t 0, .int .i64 0]) C) :
    SimX Try.prog F_shelf_Get [v] A (outK K Kp) := by
  refine SimX.alone (w_shelf_Get (A := H0) (K := fun w C => ((X.length < 1 ∨ 67 < X.length) ∧ w = .tuple [.nilP, .int .i64 2]) ∨ (1 ≤ X.length ∧ X.length ≤ 67 ∧ GtBad X ∧ w = .tuple [.nilP, .int .i64 5]) ∨ ∃ n r t h, w = .tuple [.ptr t 0, .int .i64 0] ∧ 1 ≤ X.length ∧ 6 * X.length = n + 1 ∧ n < 406 ∧ (∀ x ∈ X, entOK x = true) ∧ entS n (placesE X) [] = some r ∧ TS.Tab (tS n) (placesE X) r ∧ Rg n r ∧ TbI t h (placesE X) r.length C) (Kp := fun _ _ => False) hX
    (fun hb => .inl ⟨hb, rfl⟩) (fun h1 h2 hb C _ => .inr (.inl ⟨h1, h2, hb, rfl⟩)) (fun n r t h C h1 h2 h3 h4 h5 h6 h7 _ _ h8 _ => .inr (.inr ⟨n, r, t, h, rfl, h1, h2, h3, h4, h5, h6, h7, h8⟩))) (.cons hv hva .nil) ?_ ?_
  · intro o C ho
    cases o with
    | ret w =>
      rcases ho with ⟨_, rfl⟩ | ⟨_, _, _, rfl⟩ | ⟨n, r, t, h, rfl, _⟩ <;> rfl
    | pan w => exact ho.elim
  · intro o B' C ho hs hj
    cases o with
    | ret w =>
      rcases ho with ⟨hb, rfl⟩ | ⟨h1, h2, hb, rfl⟩ | ⟨n, r, t, h, rfl, h1, h2, h3, h4, h5, h6, h7, h8⟩
      · exact hk0 hb C hs
      · exact hk1 h1 h2 hb C hs
      · obtain ⟨t1, t2⟩ := hj t _ h8.ct rfl
        obtain ⟨k1, k2⟩ := hj h _ h8.ch (en_noFs _)
        exact hk2 n r t h C h1 h2 h3 h4 h5 h6 h7 t1 k1 ⟨t2, k2⟩ hs
    | pan w => exact ho.elim
end
end Go.Proofs.Ytilgdnbijkcboaa

/- The walk of the chapter's Read. -/
namespace Go.Proofs.Ytilgdnbijkcboaa
open Go AVL
attribute [-simp] AV.isAgg aappI aapp alen szOK aslc List.reduceReplicate
attribute [simp] shp good comps
set_option linter.unusedVariables false
set_option linter.unusedSimpArgs false
set_option maxRecDepth 8000

theorem ent_room {n : Nat} : ∀ (l : List En) {r r' : List En}, (tS n).Rise r → r.length ≤ n → entS n l r = some r' → r'.length ≤ n
  | [], r, r', _, hl, h => by
    injection h with h
    subst h; exact hl
  | e :: l, r, r', hr, hl, h => by
    have hstep : entS n (e :: l) r = if e.count = 0 then (if e = enZ then entS n l r else none) else if ∃ x ∈ r, x.addr = e.addr then none else if putC n r e = 0 then entS n l ((tS n).putR e r) else none := rfl
    rw [hstep] at h
    split at h
    · split at h
      · exact ent_room l hr hl h
      · cases h
    · split at h
      · cases h
      · rename_i hno
        split at h
        · rename_i hp
          refine ent_room l (TS.rise_putR hr) ?_ h
          rw [TS.len_putR hr, if_neg (show ¬ ∃ x ∈ r, (tS n).key x = (tS n).key e from hno)]
          have hri := putC_pos hp
          unfold putC at hp
          rw [if_neg (by simpa using hri), if_neg hno] at hp
          split at hp
          · cases hp
          · omega
        · cases h
section
variable {A : Heap} {K Kp : AV → Heap → Prop}
theorem Ent_call {n : Nat} (hn36 : n < 2 ^ 36) {l : List En} (hn : l.length = n + 1) {v : AV} (hv : Vw A v (.dsl 34 (l.map enA))) (hva : v.isAgg = false) (hk0 : entS n l [] = none → ∀ B, A.Sub B → K (.tuple [.nilS, .bool false]) B)
    (hk1 : ∀ r v B, entS n l [] = some r → Rg n r → EnsAt v r B → A.Sub B → K (.tuple [v, .bool true]) B) : SimX Try.prog F_ref11_Entries [v] A (outK K Kp) := by
  refine SimX.alone (w_ref11_Entries (A := H0) (K := fun w C => (entS n l [] = none ∧ w = .tuple [.nilS, .bool false]) ∨ ∃ r u, w = .tuple [u, .bool true] ∧ entS n l [] = some r ∧ Rg n r ∧ EnsAt u r C) (Kp := fun _ _ => False) hn36 l hn
    (fun hb C _ => .inl ⟨hb, rfl⟩) (fun r u C h1 h2 h3 _ => .inr ⟨r, u, rfl, h1, h2, h3⟩)) (.cons hv hva .nil) ?_ ?_
  · intro o C ho
    cases o with
    | ret w =>
      rcases ho with ⟨_, rfl⟩ | ⟨r, u, rfl, _, _, hu⟩
      · rfl
      · rcases hu with ⟨rfl, _⟩ | ⟨g, rfl, _⟩ <;> rfl
    | pan w => exact ho.elim
  · intro o B' C ho hs hj
    cases o with
    | ret w =>
      rcases ho with ⟨hb, rfl⟩ | ⟨r, u, rfl, h1, h2, h3⟩
      · exact hk0 hb C hs
      · refine hk1 r u C h1 h2 ?_ hs
        rcases h3 with h3 | ⟨g, h3, h4⟩
        · exact .inl h3
        · exact .inr ⟨g, h3, (hj g _ h4 (en_noFs _)).2⟩
    | pan w => exact ho.elim
structure RdI (X : List (List Nat)) (A : Heap) (i : Nat) (env : AEnv) (B : Heap) : Prop where
  le : i ≤ X.length
  e0 : env 0 = .dsl 256 (scA X)
  e5 : env 5 = .int .i64 i
  w : SlR T_api_Entry 34 (env 4) ((placesE (X.take i)).map enA) A B
structure RdJ (X : List (List Nat)) (x : List Nat) (A : Heap) (i k : Nat) (env : AEnv) (B : Heap) : Prop where
  le : k ≤ 6
  e0 : env 0 = .dsl 256 (scA X)
  e5 : env 5 = .int .i64 i
  e6 : env 6 = .int .i64 k
  w : SlR T_api_Entry 34 (env 4) ((placesE (X.take i) ++ (decE x).take k).map enA) A B
structure RdL (X P : List (List Nat)) (u v : AV) (D : Heap) (i : Nat) (env : AEnv) (B : Heap) : Prop where
  le : i ≤ X.length
  e0 : env 0 = .dsl 256 (scA X)
  e4 : env 4 = u
  e7 : env 7 = v
  e8 : env 8 = .int .i64 i
  hB : B = D
  eq : P.take i = X.take i
theorem w_ref12_Read {X : List (List Nat)} (hX : ∀ x ∈ X, Sc256 x) (hl : X.length < 2 ^ 20) (h1 : 1 ≤ X.length) (hk0 : ¬ (∀ x ∈ X, entOK x = true) → ∀ C, A.Sub C → K (.tuple [.nilS, .bool false]) C)
    (hk1 : (∀ x ∈ X, entOK x = true) → (∀ n r, 6 * X.length = n + 1 → entS n (placesE X) [] = some r → ∃ L, TS.Tab (tS n) L r ∧ L ≠ placesE X) → ∀ u C, EnsAt u (placesE X) C → A.Sub C → K (.tuple [u, .bool false]) C)
    (hk2 : (∀ x ∈ X, entOK x = true) → ∀ n r, 6 * X.length = n + 1 → entS n (placesE X) [] = some r → TS.Tab (tS n) (placesE X) r → Rg n r → ∀ u C, EnsAt u (placesE X) C → A.Sub C → K (.tuple [u, .bool true]) C) :
    SimX Try.prog F_ref12_Read [.dsl 256 (scA X)] A (outK K Kp) := by
  refine j_ref12_Read (by simp) ?_
  unfold a_ref12_Read
  obtain ⟨r9, hr9⟩ : ∃ r, r = q_ref12_Read_9 := ⟨_, rfl⟩; rw [← hr9]
  obtain ⟨r10, hr10⟩ : ∃ r, r = q_ref12_Read_10 := ⟨_, rfl⟩; rw [← hr10]
  obtain ⟨r15, hr15⟩ : ∃ r, r = q_ref12_Read_15 := ⟨_, rfl⟩; rw [← hr15]
  obtain ⟨r16, hr16⟩ : ∃ r, r = q_ref12_Read_16 := ⟨_, rfl⟩; rw [← hr16]
  simp -implicitDefEqProofs [q_ref12_Read_0, q_ref12_Read_1, q_ref12_Read_2]
  refine X_lp (RdI X A) (fun i => X.length - i) 0 ⟨by omega, by simp, by simp, by simpa [placesE] using SlR.nil (Sub_refl A)⟩ ?_
  rintro i env B ⟨lei, e0, e5, hw⟩
  have hs := hw.scl
  rw [q_ref12_Read_L9]
  obtain ⟨r8, hr8⟩ : ∃ r, r = q_ref12_Read_8 := ⟨_, rfl⟩; rw [← hr8]
  simp -implicitDefEqProofs [q_ref12_Read_3, e0, e5]
  refine ⟨fun hlt => ?_, fun hge => ?_⟩
  · have hlt' : (i : Int) < X.length := by omega
    have hxs := hX _ (List.getElem_mem hlt)
    have wi : IntKind.i64.wrap ((i : Int) + 1) = ((i + 1 : Nat) : Int) := by rw [wrap_i64 (by omega)]; simp
    have htk : X.take (i + 1) = X.take i ++ [X[i]] := List.take_succ_eq_append_getElem hlt
    obtain ⟨x, hx⟩ : ∃ x, x = X[i] := ⟨_, rfl⟩
    have hxe : (scA X)[i]'(by simpa using hlt) = .iarr .u8 256 (ints x) := by rw [scA_getE, hx]
    rw [← hx] at hxs htk
    have hxl := hxs.1
    simp -implicitDefEqProofs [q_ref12_Read_4]
    refine X_lp (RdJ X x A i) (fun k => 6 - k) 0 ⟨by omega, by simp [e0], by simp [e5], by simp, by simpa using hw⟩ ?_
    clear e0 e5 hw hs
    rintro k env B ⟨lek, e0, e5, e6, hw⟩
    have hs := hw.scl
    rw [q_ref12_Read_L8]
    obtain ⟨r7, hr7⟩ : ∃ r, r = q_ref12_Read_7 := ⟨_, rfl⟩; rw [← hr7]
    simp -implicitDefEqProofs [q_ref12_Read_5, e6]
    refine ⟨fun hk6 => ?_, fun hk6 => ?_⟩
    · have hk6' : k < 6 := by omega
      have w42 : IntKind.i64.wrap (42 * (k : Int)) = ((42 * k : Nat) : Int) := by rw [wrap_i64 (by omega)]; omega
      have wk : IntKind.i64.wrap ((k : Int) + 1) = ((k + 1 : Nat) : Int) := by rw [wrap_i64 (by omega)]; simp
      obtain ⟨q, hq⟩ : ∃ q, q = 42 * k := ⟨_, rfl⟩
      have hdk : (decE x).take (k + 1) = (decE x).take k ++ [oneE x q] := by
        rw [List.take_succ_eq_append_getElem (by simpa using hk6')]
        congr 2
        simp [decE, hq]
      have hone := w_ref12_one hxs (at_ := q) (by omega)
      rw [← hq] at w42
      obtain ⟨e, he⟩ : ∃ e, e = oneE x q := ⟨_, rfl⟩
      rw [← he] at hone hdk
      have e32 := e.h32
      simp -implicitDefEqProofs [q_ref12_Read_6, e0, e5, e6, hlt, hlt', hxe, hxl, w42, hs.shp, hs.good, hs.comps, hs.agg]
      refine hone.call (.cons (.refl _) rfl (.cons (.refl _) rfl .nil)) rfl ?_
      have hE : enA e = .agg [.iarr .u8 32 (ints e.addr), .int .i64 e.slot, .int .i64 e.count] := rfl
      rw [hE]
      simp -implicitDefEqProofs [e32]
      intro g29 hg29
      have hap := fun K hk => hw.app (K := K) (bytes := 48) (ys := [enA e]) (g1 := g29) (C := B.set g29 (.row T_api_Entry 34 [enA e])) set_eq' rfl (sub_none hg29) hg29 (by simp [placesE_len]; omega) hk
      refine hap _ fun v' C' k1 k2 => ?_
      simp -implicitDefEqProofs [k2]
      simp -implicitDefEqProofs [hr7, q_ref12_Read_7, e6, wk, -Int.natCast_add]
      refine lp_next (k + 1) ⟨by omega, by simp [e0], by simp [e5], by simp, ?_⟩ (by omega)
      rw [hdk, ← List.append_assoc, List.map_append]
      simpa using k1
    · have hk : k = 6 := by omega
      subst hk
      have h6 : (decE x).take 6 = decE x := List.take_of_length_le (Nat.le_of_eq (decE_len x))
      rw [h6] at hw
      simp -implicitDefEqProofs [hr8, q_ref12_Read_8, e5, wi, -Int.natCast_add]
      refine lp_next (i + 1) ⟨by omega, by simp [e0], by simp, ?_⟩ (by omega)
      rw [htk, placesE_snoc]
      simpa using hw
  · have hie : i = X.length := by omega
    subst hie
    rw [List.take_of_length_le (Nat.le_refl _)] at hw
    have hpl := placesE_len X
    have hfit := placesE_fit hX
    have hsp := secsE_places hX
    have hsc := w_ref12_Sectors (placesE X) (by omega) fun e he => ⟨(hfit e he).1, (hfit e he).2.2.1⟩
    obtain ⟨P, hP⟩ : ∃ P, P = secsE (placesE X) := ⟨_, rfl⟩
    have hPs : ∀ x ∈ P, Sc256 x := by rw [hP]; exact secsE_sec _
    have hPl : P.length = X.length := by rw [hP, secsE_len, hpl]; omega
    rw [← hP] at hsc hsp
    obtain ⟨u, hu⟩ : ∃ u, u = env 4 := ⟨_, rfl⟩
    rw [← hu] at hw hs
    simp -implicitDefEqProofs [hr9, q_ref12_Read_9, ← hu, hs.shp, hs.good, hs.comps, hs.agg]
    refine hsc.call (.cons hw.vw hw.agg .nil) (scA_noFs _) fun v D hv => ?_
    obtain ⟨gv, hgv, gB, gD⟩ := hv.pos (by simp; omega)
    rw [scA_len] at hgv
    subst hgv
    simp -implicitDefEqProofs [hr10, q_ref12_Read_10]
    have hwD := hw.mono hv.sub
    refine X_lp (RdL X P u (.own gv 0 P.length) D) (fun i => X.length - i) 0 ⟨by omega, by simp [e0], by simp [hu], by simp, by simp, rfl, by simp⟩ ?_
    clear e0 e5 hu
    rintro i env B' ⟨lei, e0, e4, e7, e8, hB, heq⟩
    rw [hB]
    rw [q_ref12_Read_L15]
    obtain ⟨r13, hr13⟩ : ∃ r, r = q_ref12_Read_13 := ⟨_, rfl⟩; rw [← hr13]
    obtain ⟨r14, hr14⟩ : ∃ r, r = q_ref12_Read_14 := ⟨_, rfl⟩; rw [← hr14]
    simp -implicitDefEqProofs [q_ref12_Read_11, e0, e8]
    refine ⟨fun hlt => ?_, fun hge => ?_⟩
    · have hlt' : (i : Int) < X.length := by omega
      have hpt : i < P.length := by omega
      have hpt' : (i : Int) < P.length := by omega
      have wi : IntKind.i64.wrap ((i : Int) + 1) = ((i + 1 : Nat) : Int) := by rw [wrap_i64 (by omega)]; simp
      have hq := sc_eq (hPs _ (List.getElem_mem hpt)) (hX _ (List.getElem_mem hlt))
      have hts := take_succ_eqX hpt hlt
      by_cases hb : P[i] = X[i]
      · have heq' : eqI 256 (ints P[i]) (ints X[i]) = true := by rw [hq]; simpa using hb
        simp -implicitDefEqProofs [q_ref12_Read_12, e0, e7, e8, gD, hlt, hlt', hpt, hpt', scA_getE, heq']
        simp -implicitDefEqProofs [hr14, q_ref12_Read_14, e8, wi, -Int.natCast_add]
        exact lp_next (i + 1) ⟨by omega, by simp [e0], by simp [e4], by simp [e7], by simp, rfl, hts.2 ⟨heq, hb⟩⟩ (by omega)
      · have heq' : eqI 256 (ints P[i]) (ints X[i]) = false := by rw [hq]; simpa using hb
        have hno : ¬ (∀ x ∈ X, entOK x = true) := fun h => by
          have := hsp.2 h
          exact hb (by simp only [this])
        simp -implicitDefEqProofs [q_ref12_Read_12, e0, e7, e8, gD, hlt, hlt', hpt, hpt', scA_getE, heq']
        simp -implicitDefEqProofs [hr13, q_ref12_Read_13, outOf]
        exact hk0 hno D hwD.sub
    · have hie : i = X.length := by omega
      have hPX : P = X := by
        rw [hie] at heq
        rwa [List.take_of_length_le (by omega), List.take_length] at heq
      have hok := hsp.1 hPX
      obtain ⟨n, hn⟩ : ∃ n, 6 * X.length = n + 1 := ⟨6 * X.length - 1, by omega⟩
      have hlen : ∀ F : AV → Prop, alen false u F = F (.int .i64 (placesE X).length) := fun F => by have := hwD.len (F := F); rwa [List.length_map] at this
      simp -implicitDefEqProofs [hr15, q_ref12_Read_15, e4, hs.shp, hs.good, hs.comps, hs.agg]
      refine Ent_call (n := n) (by omega) (by omega) hwD.vw hwD.agg (fun hno E hsE => ?_) fun r w E hent hrg hw2 hsE => ?_
      · simp -implicitDefEqProofs
        simp -implicitDefEqProofs [hr16, q_ref12_Read_16, e4, hs.shp, hs.good, hs.comps, hs.agg, outOf]
        exact hk1 hok (fun n' r' hn' hr' => by
          have : n' = n := by omega
          subst this; rw [hno] at hr'; cases hr') u E (slR_ens (hwD.mono hsE)) (sub_tr hwD.sub hsE)
      · have hs2 := hw2.scl
        have hroom : r.length < n + 1 := Nat.lt_succ_of_le (ent_room _ (Rg.nil n).rise (Nat.zero_le n) hent)
        simp -implicitDefEqProofs [hs2.shp, hs2.good, hs2.comps, hs2.agg]
        simp -implicitDefEqProofs [hr16, q_ref12_Read_16, e4, hs.shp, hs.good, hs.comps, hs.agg, hs2.shp, hs2.good, hs2.comps, hs2.agg, hlen, hpl, hn]
        refine w_ref11_Places (n := n) (by omega) hrg.rise hrg.pos hroom hw2 fun v3 F L3 hsF hT3 hv3 => ?_
        have hs3 := hv3.scl
        have hwF := (hwD.mono hsE).mono hsF
        have hL3 : L3.length = n + 1 := hT3.len
        simp -implicitDefEqProofs [hs3.shp, hs3.good, hs3.comps, hs3.agg, e4, hs.shp, hs.good, hs.comps, hs.agg]
        refine (w_ref11_Same L3 (placesE X) (by omega)).call (.cons (rowAt_vw hv3) hs3.agg (.cons hwF.vw hwF.agg .nil)) rfl ?_
        by_cases he : L3 = placesE X
        · rw [decide_eq_true he]
          simp -implicitDefEqProofs [outOf]
          exact hk2 hok n r hn hent (he ▸ hT3) hrg u F (slR_ens hwF) hwF.sub
        · rw [decide_eq_false he]
          simp -implicitDefEqProofs [outOf]
          exact hk1 hok (fun n' r' hn' hr' => by
            have : n' = n := by omega
            subst this
            rw [hent] at hr'
            injection hr' with hr'
            subst hr'
            exact ⟨L3, hT3, he⟩) u F (slR_ens hwF) hwF.sub
end
end Go.Proofs.Ytilgdnbijkcboaa

/- The play's own test of shelf. -/
namespace Go.Proofs.Ytilgdnbijkcboaa
open Go AVL
attribute [-simp] AV.isAgg aappI aapp alen szOK aslc List.reduceReplicate
attribute [simp] shp good comps
set_option linter.unusedVariables false
set_option linter.unusedSimpArgs false
set_option maxRecDepth 8000

def eW : En := ⟨1 :: List.replicate 31 0, 3, 2, by unfold byts; decide, rfl, by decide, by decide, by decide, by decide⟩
def PW : List En := List.replicate 4 enZ ++ eW :: List.replicate 7 enZ
theorem pW : putT 11 [] eW = [eW] ∧ putC 11 [] eW = 0 := by decide +kernel
theorem tabPW : (tS 11).Tab PW [eW] := tab_of (by decide +kernel) (by decide +kernel) (by decide +kernel) (by decide +kernel) (by decide +kernel) (fun x hx => by
  simp only [List.mem_cons, List.not_mem_nil, or_false] at hx
  subst hx
  exact ⟨4, by decide, by decide +kernel, by decide +kernel⟩) (by decide +kernel) (by decide)
theorem rtW : Rt [eW] := fun x hx => by
  simp only [List.mem_cons, List.not_mem_nil, or_false] at hx
  subst hx
  decide
theorem badW : entOK ((secE (PW.take 6)).set 0 9) = false := by
  have h : holdsN ((secE (PW.take 6)).set 0 9) = false := by decide +kernel
  unfold entOK; rw [h]; rfl
theorem sc_set {x : List Nat} (h : Sc256 x) {i v : Nat} (hv : v < 256) : Sc256 (x.set i v) := ⟨by rw [List.length_set]; exact h.1, fun y hy => by
  rcases List.mem_or_eq_of_mem_set hy with h1 | h1
  · exact h.2 y h1
  · subst h1; exact hv⟩
theorem w_law12_works : Gives Try.prog F_law12_works [] (.bool true) := by
  refine v_law12_works (by simp) ?_
  unfold a_law12_works
  obtain ⟨r2, hr2⟩ : ∃ r, r = q_law12_works_2 := ⟨_, rfl⟩; rw [← hr2]
  obtain ⟨r3, hr3⟩ : ∃ r, r = q_law12_works_3 := ⟨_, rfl⟩; rw [← hr3]
  obtain ⟨r5, hr5⟩ : ∃ r, r = q_law12_works_5 := ⟨_, rfl⟩; rw [← hr5]
  obtain ⟨r6, hr6⟩ : ∃ r, r = q_law12_works_6 := ⟨_, rfl⟩; rw [← hr6]
  obtain ⟨r7, hr7⟩ : ∃ r, r = q_law12_works_7 := ⟨_, rfl⟩; rw [← hr7]
  obtain ⟨r8, hr8⟩ : ∃ r, r = q_law12_works_8 := ⟨_, rfl⟩; rw [← hr8]
  obtain ⟨r9, hr9⟩ : ∃ r, r = q_law12_works_9 := ⟨_, rfl⟩; rw [← hr9]
  obtain ⟨r10, hr10⟩ : ∃ r, r = q_law12_works_10 := ⟨_, rfl⟩; rw [← hr10]
  obtain ⟨r11, hr11⟩ : ∃ r, r = q_law12_works_11 := ⟨_, rfl⟩; rw [← hr11]
  obtain ⟨r13, hr13⟩ : ∃ r, r = q_law12_works_13 := ⟨_, rfl⟩; rw [← hr13]
  obtain ⟨r14, hr14⟩ : ∃ r, r = q_law12_works_14 := ⟨_, rfl⟩; rw [← hr14]
  obtain ⟨r15, hr15⟩ : ∃ r, r = q_law12_works_15 := ⟨_, rfl⟩; rw [← hr15]
  simp -implicitDefEqProofs [q_law12_works_0, q_law12_works_1]
  refine w_table_New (fun h => by omega) fun _ _ t h B1 ht hh hi hs1 => ?_
  have m1 : MdS 11 t h H0 [] [] (List.replicate 12 enZ) .nilS B1 := ⟨hi, .inl ⟨rfl, rfl⟩, TS.Tab.nil (S := tS 11), (fun m e => by cases e), ht, hh, hs1⟩
  simp -implicitDefEqProofs [hr2, q_law12_works_2]
  refine w_table_New (fun h => by omega) fun _ _ t7 h7 B2 ht7 hh7 hi7 hs2 => ?_
  have m2 := m1.mono hs2
  simp -implicitDefEqProofs [hr3, q_law12_works_3]
  simp -implicitDefEqProofs [hr5, q_law12_works_5]
  have hE : (.agg [.iarr .u8 32 (1 :: List.replicate 31 0), .int .i64 3, .int .i64 2] : AV) = enA eW := rfl
  rw [hE]
  refine m2.tabPut (by omega) (Rg.nil 11) eW fun L1 B3 m3 k3 => ?_
  rw [pW.2]; rw [pW.1] at m3
  have n7t : t7 ≠ t := fun e => by rw [e, m1.tb.ct] at ht7; cases ht7
  have n7h : t7 ≠ h := fun e => by rw [e, m1.tb.ch] at ht7; cases ht7
  have nht : h7 ≠ t := fun e => by rw [e, m1.tb.ct] at hh7; cases hh7
  have nhh : h7 ≠ h := fun e => by rw [e, m1.tb.ch] at hh7; cases hh7
  have hi7b : TbI t7 h7 (List.replicate 7 enZ) 0 B3 := ⟨k3 _ _ n7t n7h hi7.ct, k3 _ _ nht nhh hi7.ch⟩
  have hL1 : L1 = PW := m3.tab.uniq tabPW (fun x => Iff.rfl)
  subst hL1
  clear m1 m2 hi7
  obtain ⟨x0, hx0⟩ : ∃ x, x = secE (PW.take 6) := ⟨_, rfl⟩
  obtain ⟨x1, hx1⟩ : ∃ x, x = secE ((PW.drop 6).take 6) := ⟨_, rfl⟩
  have hXe : secsE PW = [x0, x1] := by rw [hx0, hx1]; rfl
  have hXs : ∀ x ∈ [x0, x1], Sc256 x := by rw [← hXe]; exact secsE_sec PW
  have hgt := get_tab (m := 2) tabPW rtW rfl
  rw [hXe] at hgt
  have hnb : ¬ GtBad [x0, x1] := by
    rintro (⟨x, hx, hxo⟩ | hb)
    · rw [hgt.1 x hx] at hxo; cases hxo
    · rw [hgt.2] at hb; exact ofBad_tab tabPW rtW (by decide) hb
  simp -implicitDefEqProofs [hr6, q_law12_works_6]
  refine w_shelf_Put (m := 2) m3.tb rfl (by decide) (by decide) (tab_fit0 tabPW rtW) fun v B4 hv => ?_
  rw [hXe] at hv
  obtain ⟨gl, hgl, gA, gB4⟩ := hv.pos (by simp)
  have hgl' : v = .own gl 0 2 := hgl
  subst hgl'
  have hvw : Vw B4 (.own gl 0 2) (.dsl 256 (scA [x0, x1])) := hv.vw
  have m4 := m3.mono hv.sub
  have hi7c := hi7b.mono hv.sub
  simp -implicitDefEqProofs
  simp -implicitDefEqProofs [hr7, q_law12_works_7]
  refine w_shelf_Put_bad hi7c (by decide) ?_
  simp -implicitDefEqProofs
  simp -implicitDefEqProofs [hr8, q_law12_works_8]
  refine Get_call hXs hvw rfl (fun hb => absurd hb (by simp)) (fun _ _ hb => absurd hb hnb) fun n r t2 h2 B5 _ hn _ _ _ hT hrg ht2 hh2 hi2 hs5 => ?_
  have hn11 : n = 11 := by
    have : 6 * 2 = n + 1 := hn
    omega
  subst hn11
  rw [hgt.2] at hT hi2
  have hrl : r.length = 1 := by rw [← hT.cn]; decide +kernel
  rw [hrl] at hi2
  have m5 := m4.mono hs5
  have gB5 := hs5 _ _ gB4
  have n2 : t2 ≠ gl := fun e => by rw [e, gB4] at ht2; cases ht2
  have nh2 : h2 ≠ gl := fun e => by rw [e, gB4] at hh2; cases hh2
  simp -implicitDefEqProofs
  simp -implicitDefEqProofs [hr9, q_law12_works_9]
  refine w_shelf_Changes (m := 2) m5.tb rfl (by decide) (by decide) (tab_fit0 tabPW rtW) (from_ := 5) (by decide) (by decide) fun u B6 hu => ?_
  rw [hXe] at hu
  obtain ⟨gc, hgc, cA, cB6⟩ := hu.pos (by simp)
  have hgc' : u = .own gc 0 2 := hgc
  subst hgc'
  have ncl : gl ≠ gc := fun e => by rw [e, cA] at gB5; cases gB5
  have gB6 := hu.sub _ _ gB5
  have hi2b := hi2.mono hu.sub
  have hch : chA 5 [x0, x1] = [chV 5 x0, chV 6 x1] := rfl
  rw [hch] at cB6
  simp -implicitDefEqProofs
  simp -implicitDefEqProofs [hr10, q_law12_works_10]
  refine Get_call (X := []) (fun x hx => by cases hx) (Vw.nilD 256) rfl (fun _ B7 hs7 => ?_) (fun h1 => absurd h1 (by decide)) fun n r t h C h1 => absurd h1 (by decide)
  have gB7 := hs7 _ _ gB6
  have cB7 := hs7 _ _ cB6
  have hi2c := hi2b.mono hs7
  have hsc : scA [x0, x1] = [.iarr .u8 256 (ints x0), .iarr .u8 256 (ints x1)] := rfl
  have hl0 : x0.length = 256 := (hXs x0 (by simp)).1
  rw [hsc] at gB7
  simp -implicitDefEqProofs
  simp -implicitDefEqProofs [hr11, q_law12_works_11]
  simp -implicitDefEqProofs [hr13, q_law12_works_13, gB7, setEl, hl0]
  have hset : (ints x0).set 0 9 = ints (x0.set 0 9) := ints_set x0 0 9
  rw [hset]
  obtain ⟨B8, hB8⟩ : ∃ B8, B8 = B7.set gl (.row T_256_uint8 256 [.iarr .u8 256 (ints (x0.set 0 9)), .iarr .u8 256 (ints x1)]) := ⟨_, rfl⟩
  try simp only [← hB8]
  have gB8 : B8 gl = some (.row T_256_uint8 256 (scA [x0.set 0 9, x1])) := by rw [hB8, set_eq']; rfl
  have cB8 : B8 gc = some (.row T_api_Change 257 [chV 5 x0, chV 6 x1]) := by rw [hB8, set_ne' (Ne.symm ncl)]; exact cB7
  have hi2d : TbI t2 h2 PW 1 B8 := ⟨by rw [hB8, set_ne' n2]; exact hi2c.ct, by rw [hB8, set_ne' nh2]; exact hi2c.ch⟩
  simp -implicitDefEqProofs [hr14, q_law12_works_14]
  have hXs' : ∀ x ∈ [x0.set 0 9, x1], Sc256 x := fun x hx => by
    simp only [List.mem_cons, List.not_mem_nil, or_false] at hx
    rcases hx with rfl | rfl
    · exact sc_set (hXs x0 (by simp)) (by decide)
    · exact hXs _ (by simp)
  have hbad : entOK (x0.set 0 9) = false := by rw [hx0]; exact badW
  refine Get_call hXs' (vw_row gB8 rfl) rfl (fun hb => absurd hb (by simp)) (fun _ _ hb B9 hs9 => ?_) fun n r t h C _ _ _ hok => ?_
  · have cB9 := hs9 _ _ cB8
    have hi2e := hi2d.mono hs9
    simp -implicitDefEqProofs
    simp -implicitDefEqProofs [hr15, q_law12_works_15, cB9, chV]
    refine (w_table_Len PW (1 : Int)).call (.cons hi2e.vw rfl .nil) rfl ?_
    simp -implicitDefEqProofs [cB9, chV, outOf]
  · have := hok _ (List.mem_cons_self ..)
    rw [hbad] at this; cases this
end Go.Proofs.Ytilgdnbijkcboaa

/- ShelfReads. -/
namespace Go.Proofs.Ytilgdnbijkcboaa
open Go AVL
attribute [-simp] AV.isAgg aappI aapp alen szOK aslc List.reduceReplicate
attribute [simp] shp good comps
set_option linter.unusedVariables false
set_option linter.unusedSimpArgs false
set_option maxRecDepth 8000

theorem w_ShelfReads (X : List (List Nat)) (hX : ∀ x ∈ X, Sc256 x) (hl : X.length < 2 ^ 63) : Gives Try.prog F_law12_ShelfReads [.dsl 256 (scA X)] (.bool true) := by
  refine v_law12_ShelfReads (by simp) ?_
  unfold a_law12_ShelfReads
  obtain ⟨r4, hr4⟩ : ∃ r, r = q_law12_ShelfReads_4 := ⟨_, rfl⟩; rw [← hr4]
  obtain ⟨r5, hr5⟩ : ∃ r, r = q_law12_ShelfReads_5 := ⟨_, rfl⟩; rw [← hr5]
  obtain ⟨r6, hr6⟩ : ∃ r, r = q_law12_ShelfReads_6 := ⟨_, rfl⟩; rw [← hr6]
  obtain ⟨r7, hr7⟩ : ∃ r, r = q_law12_ShelfReads_7 := ⟨_, rfl⟩; rw [← hr7]
  obtain ⟨r8, hr8⟩ : ∃ r, r = q_law12_ShelfReads_8 := ⟨_, rfl⟩; rw [← hr8]
  obtain ⟨r9, hr9⟩ : ∃ r, r = q_law12_ShelfReads_9 := ⟨_, rfl⟩; rw [← hr9]
  obtain ⟨r11, hr11⟩ : ∃ r, r = q_law12_ShelfReads_11 := ⟨_, rfl⟩; rw [← hr11]
  obtain ⟨r12, hr12⟩ : ∃ r, r = q_law12_ShelfReads_12 := ⟨_, rfl⟩; rw [← hr12]
  by_cases h8 : (8 : Int) < X.length
  · simp -implicitDefEqProofs [q_law12_ShelfReads_0, q_law12_ShelfReads_1, q_law12_ShelfReads_2, h8]
    refine w_law12_works.call .nil rfl ?_
    simp -implicitDefEqProofs [outOf]
  have h8' : X.length ≤ 8 := by omega
  have hpl := placesE_len X
  simp -implicitDefEqProofs [q_law12_ShelfReads_0, q_law12_ShelfReads_1, q_law12_ShelfReads_3, h8]
  refine w_shelf_Get hX (fun hb => ?_) (fun h1 _ hbad C hsC => ?_) fun n r t h C h1 hn hn4 hok hent hT hrg ht hh hi hsC => ?_
  · have hlt : (X.length : Int) < 1 := by omega
    simp -implicitDefEqProofs
    simp -implicitDefEqProofs [hr4, q_law12_ShelfReads_4, hlt]
    simp -implicitDefEqProofs [hr5, q_law12_ShelfReads_5]
    refine w_law12_works.call .nil rfl ?_
    simp -implicitDefEqProofs [outOf]
  · have hlt : ¬ (X.length : Int) < 1 := by omega
    have fin : ∀ (env' : AEnv) (C' : Heap), env' 3 = .nilP → env' 4 = .int .i64 5 → env' 6 = .bool false →
        AVL.X Try.prog (AVL.fin [ARes.tmp 2] (AV.bool true)) (.seq (.seq (.region r7) (.cond (.t 36) (.seq (.region r8) .ret) .skip)) (.seq (.seq (.region r9) (.cond (.t 51) (.seq (.region q_law12_ShelfReads_10) .ret) .skip)) (.seq (.region r11) (.seq (.region r12) .ret)))) .done env' C' := by
      intro env' C' e3 e4 e6
      simp -implicitDefEqProofs [hr7, q_law12_ShelfReads_7, e6]
      simp -implicitDefEqProofs [hr8, q_law12_ShelfReads_8, e3, e4]
      refine w_law12_works.call .nil rfl ?_
      simp -implicitDefEqProofs [outOf]
    simp -implicitDefEqProofs
    simp -implicitDefEqProofs [hr4, q_law12_ShelfReads_4, hlt]
    simp -implicitDefEqProofs [hr6, q_law12_ShelfReads_6]
    refine w_ref12_Read hX (by omega) h1 (fun hno D hsD => ?_) (fun hok _ u D hu hsD => ?_) fun hok n r hn hent hT hrg u D hu hsD => ?_
    · simp -implicitDefEqProofs
      exact fin _ _ (by simp) (by simp) (by simp)
    · have hs := hu.scl
      simp -implicitDefEqProofs [hs.shp, hs.good, hs.comps, hs.agg]
      exact fin _ _ (by simp) (by simp) (by simp)
    · exfalso
      rcases hbad with ⟨x, hx, hxo⟩ | hb | hb
      · rw [hok x hx] at hxo; cases hxo
      · omega
      · obtain ⟨L, hL, hne⟩ := hb n r (by omega) hent
        exact hne (hL.uniq hT fun x => Iff.rfl)
  · have hlt : ¬ (X.length : Int) < 1 := by omega
    simp -implicitDefEqProofs
    simp -implicitDefEqProofs [hr4, q_law12_ShelfReads_4, hlt]
    simp -implicitDefEqProofs [hr6, q_law12_ShelfReads_6]
    refine w_ref12_Read hX (by omega) h1 (fun hno D hsD => absurd hok hno) (fun _ hb u D hu hsD => ?_) fun _ n' r' hn' hent' hT' hrg' u D hu hsD => ?_
    · exfalso
      obtain ⟨L, hL, hne⟩ := hb n r hn hent
      exact hne (hL.uniq hT fun x => Iff.rfl)
    · have hs := hu.scl
      have hiD := hi.mono hsD
      have hfit := placesE_fit hX
      have hXe := (secsE_places hX).2 hok
      simp -implicitDefEqProofs [hs.shp, hs.good, hs.comps, hs.agg]
      simp -implicitDefEqProofs [hr7, q_law12_ShelfReads_7]
      simp -implicitDefEqProofs [hr9, q_law12_ShelfReads_9]
      simp -implicitDefEqProofs [hr11, q_law12_ShelfReads_11]
      refine w_shelf_Put (m := X.length) hiD hpl (by omega) (by omega) (fun e he => ⟨(hfit e he).1, (hfit e he).2.2.1⟩) fun v E hv => ?_
      rw [hXe] at hv
      have hsv := hv.scl
      have hiE := hiD.mono hv.sub
      have huE := EnsAt.mono hu hv.sub
      simp -implicitDefEqProofs [hsv.shp, hsv.good, hsv.comps, hsv.agg]
      simp -implicitDefEqProofs [hr12, q_law12_ShelfReads_12]
      refine (w_table_Places (placesE X) _ (by omega)).call (.cons hiE.vw rfl .nil) (en_noFs _) fun w F hw => ?_
      have hsw := hw.scl
      simp -implicitDefEqProofs [hsw.shp, hsw.good, hsw.comps, hsw.agg, hs.shp, hs.good, hs.comps, hs.agg]
      refine (w_ref11_Same (placesE X) (placesE X) (by omega)).call (.cons hw.vw hsw.agg (.cons (rowAt_vw (EnsAt.mono huE hw.sub)) hs.agg .nil)) rfl ?_
      simp -implicitDefEqProofs [hsv.shp, hsv.good, hsv.comps, hsv.agg]
      refine (w_ref06_SameImg hX hX (by omega)).call (.cons (hv.mono hw.sub).vw hsv.agg (.cons (.refl _) rfl .nil)) rfl ?_
      simp -implicitDefEqProofs
      refine w_law12_works.call .nil rfl ?_
      simp -implicitDefEqProofs [outOf]
end Go.Proofs.Ytilgdnbijkcboaa

/- ShelfBack. -/
namespace Go.Proofs.Ytilgdnbijkcboaa
open Go AVL
attribute [-simp] AV.isAgg aappI aapp alen szOK aslc List.reduceReplicate
attribute [simp] shp good comps
set_option linter.unusedVariables false
set_option linter.unusedSimpArgs false
set_option maxRecDepth 8000

theorem chA_getE {f : Int} {X : List (List Nat)} {i : Nat} (h : i < (chA f X).length) : (chA f X)[i] = .agg [.int .i64 (f + i), .iarr .u8 256 (ints (X[i]'(by simpa using h)))] := by
  have hi : i < X.length := by simpa using h
  simp [chA, chV, hi]
structure BkI (n t h : Nat) (l : List En) (from_ : Int) (i : Nat) (env : AEnv) (B : Heap) : Prop where
  le : i ≤ l.length
  e0 : env 0 = .dsl 34 (l.map enA)
  e2 : env 2 = .int .i64 from_
  e7 : env 7 = .int .i64 ((n + 1 : Nat) : Int)
  e8 : env 8 = .ptr t 0
  e11 : env 11 = .int .i64 i
  md : ∃ r L, MdS n t h H0 r r L (env 10) B ∧ Rg n r ∧ Rt r
structure BkJ (X : List (List Nat)) (gs gc : Nat) (from_ : Int) (v10 v14 : AV) (D : Heap) (i : Nat) (env : AEnv) (B : Heap) : Prop where
  le : i ≤ X.length
  e2 : env 2 = .int .i64 from_
  e10 : env 10 = v10
  e14 : env 14 = v14
  e15 : env 15 = .own gs 0 X.length
  e17 : env 17 = .own gc 0 X.length
  e19 : env 19 = .int .i64 i
  hB : B = D
theorem w_ShelfBack (l : List En) (hl : l.length < 2 ^ 63) (c : Nat) (hc : c < 256) (from_ : Int) : Gives Try.prog F_law12_ShelfBack [.dsl 34 (l.map enA), .int .u8 c, .int .i64 from_] (.bool true) := by
  refine v_law12_ShelfBack (by simp) ?_
  unfold a_law12_ShelfBack
  obtain ⟨r3, hr3⟩ : ∃ r, r = q_law12_ShelfBack_3 := ⟨_, rfl⟩; rw [← hr3]
  obtain ⟨r4, hr4⟩ : ∃ r, r = q_law12_ShelfBack_4 := ⟨_, rfl⟩; rw [← hr4]
  obtain ⟨r5, hr5⟩ : ∃ r, r = q_law12_ShelfBack_5 := ⟨_, rfl⟩; rw [← hr5]
  obtain ⟨r8, hr8⟩ : ∃ r, r = q_law12_ShelfBack_8 := ⟨_, rfl⟩; rw [← hr8]
  obtain ⟨r15, hr15⟩ : ∃ r, r = q_law12_ShelfBack_15 := ⟨_, rfl⟩; rw [← hr15]
  obtain ⟨r16, hr16⟩ : ∃ r, r = q_law12_ShelfBack_16 := ⟨_, rfl⟩; rw [← hr16]
  obtain ⟨r17, hr17⟩ : ∃ r, r = q_law12_ShelfBack_17 := ⟨_, rfl⟩; rw [← hr17]
  obtain ⟨r18, hr18⟩ : ∃ r, r = q_law12_ShelfBack_18 := ⟨_, rfl⟩; rw [← hr18]
  obtain ⟨r20, hr20⟩ : ∃ r, r = q_law12_ShelfBack_20 := ⟨_, rfl⟩; rw [← hr20]
  obtain ⟨r25, hr25⟩ : ∃ r, r = q_law12_ShelfBack_25 := ⟨_, rfl⟩; rw [← hr25]
  obtain ⟨r26, hr26⟩ : ∃ r, r = q_law12_ShelfBack_26 := ⟨_, rfl⟩; rw [← hr26]
  by_cases h40 : (40 : Int) < l.length
  · simp -implicitDefEqProofs [q_law12_ShelfBack_0, q_law12_ShelfBack_1, q_law12_ShelfBack_2, h40]
    refine w_law12_works.call .nil rfl ?_
    simp -implicitDefEqProofs [outOf]
  by_cases hf0 : from_ < 0
  · simp -implicitDefEqProofs [q_law12_ShelfBack_0, q_law12_ShelfBack_1, q_law12_ShelfBack_2, h40, hf0]
    refine w_law12_works.call .nil rfl ?_
    simp -implicitDefEqProofs [outOf]
  by_cases hf1 : 1099511627776 < from_
  · simp -implicitDefEqProofs [q_law12_ShelfBack_0, q_law12_ShelfBack_1, q_law12_ShelfBack_2, h40, hf0, hf1]
    refine w_law12_works.call .nil rfl ?_
    simp -implicitDefEqProofs [outOf]
  obtain ⟨m, hm⟩ : ∃ m, m = 1 + c % 6 := ⟨_, rfl⟩
  have hm6 : m ≤ 6 := by omega
  have hm0 : 0 < m := by omega
  obtain ⟨n, hn⟩ : ∃ n, 6 * m = n + 1 := ⟨6 * m - 1, by omega⟩
  have u1 : IntKind.i64.wrap (c : Int) = (c : Int) := wrap_i64 (by omega)
  have u2 : (c : Int).tmod 6 = ((c % 6 : Nat) : Int) := (Int.ofNat_tmod c 6).symm
  have u3 : IntKind.i64.wrap (1 + ((c % 6 : Nat) : Int)) = ((m : Nat) : Int) := by rw [wrap_i64 (by omega)]; omega
  have u4 : IntKind.i64.wrap (6 * (m : Int)) = ((n + 1 : Nat) : Int) := by rw [wrap_i64 (by omega)]; omega
  obtain ⟨q, hq⟩ : ∃ q, q = c % 6 := ⟨_, rfl⟩
  rw [← hq] at u2 u3
  have u5 : IntKind.i64.wrap ((q : Nat) : Int) = (q : Int) := wrap_i64 (by omega)
  obtain ⟨N, hN⟩ : ∃ N : Nat, N = n + 1 := ⟨_, rfl⟩
  rw [← hN] at u4
  simp -implicitDefEqProofs [q_law12_ShelfBack_0, q_law12_ShelfBack_1, h40, hf0, hf1]
  simp -implicitDefEqProofs [hr3, q_law12_ShelfBack_3, u1, u2, u3, u4, u5]
  simp -implicitDefEqProofs [hr4, q_law12_ShelfBack_4]
  refine w_table_New (fun h => by omega) fun _ _ t h B1 ht hh hi hs1 => ?_
  have hi' : TbI t h (List.replicate (n + 1) enZ) 0 B1 := by
    have := hi
    rw [hN] at this
    exact this
  have m1 : MdS n t h H0 [] [] (List.replicate (n + 1) enZ) .nilS B1 := ⟨hi', .inl ⟨rfl, rfl⟩, TS.Tab.nil (S := tS n), (fun m e => by cases e), ht, hh, hs1⟩
  simp -implicitDefEqProofs [hr5, q_law12_ShelfBack_5]
  simp -implicitDefEqProofs [q_law12_ShelfBack_7]
  simp -implicitDefEqProofs [hr8, q_law12_ShelfBack_8]
  refine X_lp (BkI n t h l from_) (fun i => l.length - i) 0 ⟨by omega, by simp, by simp, by simp [hN], by simp, by simp, ⟨[], _, by simpa using m1, Rg.nil n, Rt.nil⟩⟩ ?_
  clear m1 hi hi'
  rintro i env B ⟨hil, e0, e2, e7, e8, e11, ⟨r, L, md, hrg, hrt⟩⟩
  rw [← hN] at e7
  rw [q_law12_ShelfBack_L15]
  obtain ⟨r10, hr10⟩ : ∃ r, r = q_law12_ShelfBack_10 := ⟨_, rfl⟩; rw [← hr10]
  obtain ⟨r11, hr11⟩ : ∃ r, r = q_law12_ShelfBack_11 := ⟨_, rfl⟩; rw [← hr11]
  obtain ⟨r13, hr13⟩ : ∃ r, r = q_law12_ShelfBack_13 := ⟨_, rfl⟩; rw [← hr13]
  obtain ⟨r14, hr14⟩ : ∃ r, r = q_law12_ShelfBack_14 := ⟨_, rfl⟩; rw [← hr14]
  have hroom : r.length < n + 1 := md.tab.room
  obtain ⟨v, hv⟩ : ∃ v, v = env 10 := ⟨_, rfl⟩
  rw [← hv] at md
  have hs := md.en.scl
  simp -implicitDefEqProofs [q_law12_ShelfBack_9, e0, e11]
  refine ⟨fun hlt => ?_, fun hge => ?_⟩
  · have hii : (i : Int) < l.length := by omega
    have wi : IntKind.i64.wrap ((i : Int) + 1) = (i : Int) + 1 := wrap_i64 (by omega)
    obtain ⟨e, he⟩ : ∃ e, e = l[i] := ⟨_, rfl⟩
    have e32 := e.h32
    have hE : enA l[i] = .agg [.iarr .u8 32 (ints e.addr), .int .i64 e.slot, .int .i64 e.count] := by rw [he]; rfl
    have hEe : (.agg [.iarr .u8 32 (ints e.addr), .int .i64 e.slot, .int .i64 e.count] : AV) = enA e := rfl
    simp -implicitDefEqProofs [hr10, q_law12_ShelfBack_10, e0, e7, e11, ← hv, hlt, hii, hs.shp, hs.good, hs.comps, hs.agg]
    rw [hE]
    simp -implicitDefEqProofs [e32]
    rw [hEe, hN]
    refine md.refPut (by omega) (by omega) hrg e fun v' C md' hsC => ?_
    have hs' := md'.en.scl
    simp -implicitDefEqProofs [hs'.shp, hs'.good, hs'.comps, hs'.agg]
    simp -implicitDefEqProofs [hr11, q_law12_ShelfBack_11, e0, e8, e11, hlt, hii]
    rw [hE]
    simp -implicitDefEqProofs [e32]
    rw [hEe]
    refine md'.tabPut (by omega) hrg e fun L' C' md2 hkp => ?_
    simp -implicitDefEqProofs
    simp -implicitDefEqProofs [hr13, q_law12_ShelfBack_13]
    simp -implicitDefEqProofs [hr14, q_law12_ShelfBack_14, e11, wi]
    exact lp_next (i + 1) ⟨by omega, by simp [e0], by simp [e2], by simp [e7, hN], by simp [e8], by simp, ⟨_, L', by simpa using md2, hrg.put e, hrt.put hrg.rise e⟩⟩ (by omega)
  · have hLl : L.length = n + 1 := md.tab.len
    have hLm : L.length = 6 * m := by omega
    have hsl : (secsE L).length = m := by rw [secsE_len, hLm]; omega
    have hp0 := tab_fit0 md.tab hrt
    have hgt := get_tab md.tab hrt hLm
    have hnb : ¬ GtBad (secsE L) := by
      rintro (⟨x, hx, hxo⟩ | hb)
      · rw [hgt.1 x hx] at hxo; cases hxo
      · rw [hgt.2] at hb; exact ofBad_tab md.tab hrt (by omega) hb
    simp -implicitDefEqProofs [hr15, q_law12_ShelfBack_15, e7, ← hv, hs.shp, hs.good, hs.comps, hs.agg]
    rw [hN]
    refine w_ref11_Places (n := n) (by omega) hrg.rise hrg.pos hroom md.en fun v14 C L2 hsC hT2 hv14 => ?_
    have hLe : L2 = L := hT2.uniq md.tab fun x => Iff.rfl
    subst hLe
    have hs14 := hv14.scl
    have mdC := md.mono hsC
    simp -implicitDefEqProofs [hs14.shp, hs14.good, hs14.comps, hs14.agg]
    simp -implicitDefEqProofs [hr16, q_law12_ShelfBack_16, e8]
    refine w_shelf_Put mdC.tb hLm hm0 (by omega) hp0 fun w D hw => ?_
    obtain ⟨X, hX⟩ : ∃ X, X = secsE L2 := ⟨_, rfl⟩
    have hXs : ∀ x ∈ X, Sc256 x := by rw [hX]; exact secsE_sec L2
    rw [← hX] at hw hsl hgt hnb
    obtain ⟨gs, hgs, sA, sD⟩ := hw.pos (by simp; omega)
    rw [scA_len] at hgs
    subst hgs
    have mdD := mdC.mono hw.sub
    have h14D := EnsAt.mono hv14 hw.sub
    simp -implicitDefEqProofs
    simp -implicitDefEqProofs [hr17, q_law12_ShelfBack_17, e2, e8]
    refine w_shelf_Changes mdD.tb hLm hm0 (by omega) hp0 (from_ := from_) (by omega) (by omega) fun w2 E hw2 => ?_
    rw [← hX] at hw2
    obtain ⟨gc, hgc, cA, cE⟩ := hw2.pos (by simp; omega)
    rw [chA_len] at hgc
    subst hgc
    have mdE := mdD.mono hw2.sub
    have h14E := EnsAt.mono h14D hw2.sub
    have sE := hw2.sub _ _ sD
    have hsecs := w_ref12_Sectors L2 (by omega) hp0
    rw [← hX] at hsecs
    simp -implicitDefEqProofs
    simp -implicitDefEqProofs [hr18, q_law12_ShelfBack_18, hs14.shp, hs14.good, hs14.comps, hs14.agg]
    refine hsecs.call (.cons (rowAt_vw h14E) hs14.agg .nil) (scA_noFs _) fun w3 F hw3 => ?_
    have hs3 := hw3.scl
    have mdF := mdE.mono hw3.sub
    have h14F := EnsAt.mono h14E hw3.sub
    have sF := hw3.sub _ _ sE
    have cF := hw3.sub _ _ cE
    simp -implicitDefEqProofs [hs3.shp, hs3.good, hs3.comps, hs3.agg]
    refine (w_ref06_SameImg hXs hXs (by omega)).call (.cons (vw_row sF (by simp)) rfl (.cons hw3.vw hs3.agg .nil)) rfl ?_
    simp -implicitDefEqProofs
    simp -implicitDefEqProofs [hr20, q_law12_ShelfBack_20]
    refine X_lp (BkJ X gs gc from_ v v14 F) (fun i => X.length - i) 0 ⟨by omega, by simp [e2], by simp [hv], by simp, by simp, by simp, by simp, rfl⟩ ?_
    clear e0 e2 e7 e8 e11 hv
    rintro j env B' ⟨lej, e2, e10, e14, e15, e17, e19, hB⟩
    rw [hB]
    rw [q_law12_ShelfBack_L25]
    obtain ⟨r22, hr22⟩ : ∃ r, r = q_law12_ShelfBack_22 := ⟨_, rfl⟩; rw [← hr22]
    obtain ⟨r24, hr24⟩ : ∃ r, r = q_law12_ShelfBack_24 := ⟨_, rfl⟩; rw [← hr24]
    simp -implicitDefEqProofs [q_law12_ShelfBack_21, e17, e19]
    refine ⟨fun hlt => ?_, fun hge => ?_⟩
    · have hlt' : (j : Int) < X.length := by omega
      have wj : IntKind.i64.wrap ((j : Int) + 1) = ((j + 1 : Nat) : Int) := by rw [wrap_i64 (by omega)]; simp
      have wf : IntKind.i64.wrap (from_ + (j : Int)) = from_ + (j : Int) := wrap_i64 (by omega)
      have hxs := hXs _ (List.getElem_mem hlt)
      have heq : eqI 256 (ints X[j]) (ints X[j]) = true := by rw [sc_eq hxs hxs]; simp
      have hxl := hxs.1
      simp -implicitDefEqProofs [hr22, q_law12_ShelfBack_22, e2, e15, e17, e19, sF, cF, hlt, hlt', scA_getE, chA_getE, wf, hxl, heq]
      simp -implicitDefEqProofs [hr24, q_law12_ShelfBack_24, e19, wj, -Int.natCast_add]
      exact lp_next (j + 1) ⟨by omega, by simp [e2], by simp [e10], by simp [e14], by simp [e15], by simp [e17], by simp, rfl⟩ (by omega)
    · simp -implicitDefEqProofs [hr25, q_law12_ShelfBack_25, e15]
      refine Get_call hXs (vw_row sF (by simp)) rfl (fun hb => absurd hb (by omega)) (fun _ _ hb => absurd hb hnb) fun n' r2 t2 h2 G _ hn' _ _ _ hT hrg2 ht2 hh2 hi2 hsG => ?_
      rw [hgt.2] at hT hi2
      have hnn : n' = n := by omega
      subst hnn
      have hrl : r2.length = r.length := by rw [← hT.cn, md.tab.cn]
      rw [hrl] at hi2
      have h14G := EnsAt.mono h14F hsG
      have hlen : ∀ F : AV → Prop, alen false v F = F (.int .i64 r.length) := fun F => md.en.len
      simp -implicitDefEqProofs
      simp -implicitDefEqProofs [hr26, q_law12_ShelfBack_26]
      refine (w_table_Places L2 _ (by omega)).call (.cons hi2.vw rfl .nil) (en_noFs _) fun w5 Q hw5 => ?_
      have hs5 := hw5.scl
      have hi2Q := hi2.mono hw5.sub
      simp -implicitDefEqProofs [hs5.shp, hs5.good, hs5.comps, hs5.agg, e14, hs14.shp, hs14.good, hs14.comps, hs14.agg]
      refine (w_ref11_Same L2 L2 (by omega)).call (.cons hw5.vw hs5.agg (.cons (rowAt_vw (EnsAt.mono h14G hw5.sub)) hs14.agg .nil)) rfl ?_
      simp -implicitDefEqProofs
      refine (w_table_Len L2 (r.length : Int)).call (.cons hi2Q.vw rfl .nil) rfl ?_
      simp -implicitDefEqProofs [e10, hlen]
      refine w_law12_works.call .nil rfl ?_
      simp -implicitDefEqProofs [outOf]
end Go.Proofs.Ytilgdnbijkcboaa

/- ShelfForgets. -/
namespace Go.Proofs.Ytilgdnbijkcboaa
open Go AVL
attribute [-simp] AV.isAgg aappI aapp alen szOK aslc List.reduceReplicate
attribute [simp] shp good comps
set_option linter.unusedVariables false
set_option linter.unusedSimpArgs false
set_option maxRecDepth 8000

structure FgI (t h g3 : Nat) (Y : Heap) (l : List En) (i : Nat) (env : AEnv) (B : Heap) : Prop where
  le : i ≤ l.length
  e0 : env 0 = .dsl 34 (l.map enA)
  e3 : env 3 = .ptr g3 0
  e5 : env 5 = .ptr t 0
  e7 : env 7 = .int .i64 i
  md : ∃ r L, MdS 29 t h Y r [] L .nilS B ∧ Rg 29 r ∧ Rt r
theorem w_ShelfForgets (l : List En) (hl : l.length < 2 ^ 63) (e : En) : Gives Try.prog F_law12_ShelfForgets [.dsl 34 (l.map enA), enA e] (.bool true) := by
  refine v_law12_ShelfForgets (by simp) ?_
  unfold a_law12_ShelfForgets
  have e32 := e.h32
  have hE : enA e = .agg [.iarr .u8 32 (ints e.addr), .int .i64 e.slot, .int .i64 e.count] := rfl
  have hEe : (.agg [.iarr .u8 32 (ints e.addr), .int .i64 e.slot, .int .i64 e.count] : AV) = enA e := rfl
  rw [hE]
  obtain ⟨r3, hr3⟩ : ∃ r, r = q_law12_ShelfForgets_3 := ⟨_, rfl⟩; rw [← hr3]
  obtain ⟨r4, hr4⟩ : ∃ r, r = q_law12_ShelfForgets_4 := ⟨_, rfl⟩; rw [← hr4]
  obtain ⟨r6, hr6⟩ : ∃ r, r = q_law12_ShelfForgets_6 := ⟨_, rfl⟩; rw [← hr6]
  obtain ⟨r10, hr10⟩ : ∃ r, r = q_law12_ShelfForgets_10 := ⟨_, rfl⟩; rw [← hr10]
  obtain ⟨r11, hr11⟩ : ∃ r, r = q_law12_ShelfForgets_11 := ⟨_, rfl⟩; rw [← hr11]
  obtain ⟨r12, hr12⟩ : ∃ r, r = q_law12_ShelfForgets_12 := ⟨_, rfl⟩; rw [← hr12]
  obtain ⟨r13, hr13⟩ : ∃ r, r = q_law12_ShelfForgets_13 := ⟨_, rfl⟩; rw [← hr13]
  obtain ⟨r14, hr14⟩ : ∃ r, r = q_law12_ShelfForgets_14 := ⟨_, rfl⟩; rw [← hr14]
  obtain ⟨r15, hr15⟩ : ∃ r, r = q_law12_ShelfForgets_15 := ⟨_, rfl⟩; rw [← hr15]
  obtain ⟨r16, hr16⟩ : ∃ r, r = q_law12_ShelfForgets_16 := ⟨_, rfl⟩; rw [← hr16]
  obtain ⟨r17, hr17⟩ : ∃ r, r = q_law12_ShelfForgets_17 := ⟨_, rfl⟩; rw [← hr17]
  obtain ⟨r19, hr19⟩ : ∃ r, r = q_law12_ShelfForgets_19 := ⟨_, rfl⟩; rw [← hr19]
  obtain ⟨r20, hr20⟩ : ∃ r, r = q_law12_ShelfForgets_20 := ⟨_, rfl⟩; rw [← hr20]
  simp -implicitDefEqProofs [q_law12_ShelfForgets_0, e32]
  intro g3
  obtain ⟨Y, hY⟩ : ∃ Y, Y = H0.set g3 (.var 32 [.iarr .u8 32 (ints e.addr), .int .i64 e.slot, .int .i64 e.count]) := ⟨_, rfl⟩
  try simp only [← hY]
  have y3 : Y g3 = some (.var 32 [.iarr .u8 32 (ints e.addr), .int .i64 e.slot, .int .i64 e.count]) := by rw [hY, set_eq']
  clear hY
  by_cases h40 : (40 : Int) < l.length
  · simp -implicitDefEqProofs [q_law12_ShelfForgets_1, q_law12_ShelfForgets_2, h40]
    refine w_law12_works.call .nil rfl ?_
    simp -implicitDefEqProofs [outOf]
  simp -implicitDefEqProofs [q_law12_ShelfForgets_1, h40]
  simp -implicitDefEqProofs [hr3, q_law12_ShelfForgets_3]
  refine w_table_New (fun h => by omega) fun _ _ t h B1 ht hh hi hs1 => ?_
  have m1 : MdS 29 t h Y [] [] (List.replicate 30 enZ) .nilS B1 := ⟨hi, .inl ⟨rfl, rfl⟩, TS.Tab.nil (S := tS 29), (fun m e => by cases e), ht, hh, hs1⟩
  simp -implicitDefEqProofs [hr4, q_law12_ShelfForgets_4]
  simp -implicitDefEqProofs [hr6, q_law12_ShelfForgets_6]
  refine X_lp (FgI t h g3 Y l) (fun i => l.length - i) 0 ⟨by omega, by simp, by simp, by simp, by simp, ⟨[], _, m1, Rg.nil 29, Rt.nil⟩⟩ ?_
  clear m1 hi
  rintro i env B ⟨hil, e0, e3, e5, e7, ⟨r, L, md, hrg, hrt⟩⟩
  rw [q_law12_ShelfForgets_L10]
  obtain ⟨r8, hr8⟩ : ∃ r, r = q_law12_ShelfForgets_8 := ⟨_, rfl⟩; rw [← hr8]
  obtain ⟨r9, hr9⟩ : ∃ r, r = q_law12_ShelfForgets_9 := ⟨_, rfl⟩; rw [← hr9]
  have hroom : r.length < 30 := md.tab.room
  simp -implicitDefEqProofs [q_law12_ShelfForgets_7, e0, e7]
  refine ⟨fun hlt => ?_, fun hge => ?_⟩
  · have hii : (i : Int) < l.length := by omega
    have wi : IntKind.i64.wrap ((i : Int) + 1) = (i : Int) + 1 := wrap_i64 (by omega)
    obtain ⟨x, hx⟩ : ∃ x, x = l[i] := ⟨_, rfl⟩
    have x32 := x.h32
    have hX : enA l[i] = .agg [.iarr .u8 32 (ints x.addr), .int .i64 x.slot, .int .i64 x.count] := by rw [hx]; rfl
    have hXe : (.agg [.iarr .u8 32 (ints x.addr), .int .i64 x.slot, .int .i64 x.count] : AV) = enA x := rfl
    simp -implicitDefEqProofs [hr8, q_law12_ShelfForgets_8, e0, e5, e7, hlt, hii]
    rw [hX]
    simp -implicitDefEqProofs [x32]
    rw [hXe]
    refine md.tabPut (by omega) hrg x fun L' C' md2 hkp => ?_
    simp -implicitDefEqProofs
    simp -implicitDefEqProofs [hr9, q_law12_ShelfForgets_9, e7, wi]
    exact lp_next (i + 1) ⟨by omega, by simp [e0], by simp [e3], by simp [e5], by simp, ⟨_, L', md2, hrg.put x, hrt.put hrg.rise x⟩⟩ (by omega)
  · have hLl : L.length = 30 := md.tab.len
    have y3B := md.kp _ _ y3
    have n3t : g3 ≠ t := fun e => by rw [e, md.at_] at y3; cases y3
    have n3h : g3 ≠ h := fun e => by rw [e, md.ah] at y3; cases y3
    simp -implicitDefEqProofs [hr10, q_law12_ShelfForgets_10, e3, e5, y3B, e32]
    rcases getV_of md.tab e.addr with ⟨x, hx, hxa, hgv⟩ | ⟨hno, hgv⟩
    · refine (w_table_Get (k := (r.length : Int)) md.tab (by omega) e hgv).call (.cons md.tb.vw rfl (.cons (.refl _) rfl .nil)) rfl ?_
      have x32 := x.h32
      have hX : enA x = .agg [.iarr .u8 32 (ints x.addr), .int .i64 x.slot, .int .i64 x.count] := rfl
      simp -implicitDefEqProofs [hX, x32]
      intro g8 hg8
      simp -implicitDefEqProofs [hr11, q_law12_ShelfForgets_11]
      simp -implicitDefEqProofs [hr12, q_law12_ShelfForgets_12]
      refine w_law12_works.call .nil rfl ?_
      simp -implicitDefEqProofs [outOf]
    · refine (w_table_Get (k := (r.length : Int)) md.tab (by omega) e hgv).call (.cons md.tb.vw rfl (.cons (.refl _) rfl .nil)) rfl ?_
      have hZ : enA enZ = .agg [.iarr .u8 32 (ints z32), .int .i64 0, .int .i64 0] := rfl
      have hz32 : z32.length = 32 := rfl
      simp -implicitDefEqProofs [hZ, hz32]
      intro g8 hg8
      obtain ⟨C, hC⟩ : ∃ C, C = B.set g8 (.var 32 [.iarr .u8 32 (ints z32), .int .i64 0, .int .i64 0]) := ⟨_, rfl⟩
      try simp only [← hC]
      have kC : B.Sub C := by rw [hC]; exact sub_none hg8
      clear hC
      have mdC := md.mono kC
      have y3C := kC _ _ y3B
      have hp0 := tab_fit0 md.tab hrt
      simp -implicitDefEqProofs [hr11, q_law12_ShelfForgets_11]
      simp -implicitDefEqProofs [hr13, q_law12_ShelfForgets_13, e5]
      refine w_shelf_Put (m := 5) mdC.tb hLl (by decide) (by decide) hp0 fun v D hv => ?_
      have hsl : (secsE L).length = 5 := by rw [secsE_len, hLl]
      obtain ⟨gs, hgs, sA, sD⟩ := hv.pos (by simp [hsl])
      rw [scA_len, hsl] at hgs
      subst hgs
      have mdD := mdC.mono hv.sub
      have y3D := hv.sub _ _ y3C
      have nst : gs ≠ t := fun e => by rw [e, mdC.tb.ct] at sA; cases sA
      have nsh : gs ≠ h := fun e => by rw [e, mdC.tb.ch] at sA; cases sA
      simp -implicitDefEqProofs
      simp -implicitDefEqProofs [hr14, q_law12_ShelfForgets_14, e3, e5, y3D, e32]
      rw [hEe]
      refine mdD.tabPut (by omega) hrg e fun L2 E md2 hkp => ?_
      by_cases hp : putC 29 r e = 0
      · have hpt : putT 29 r e = (tS 29).putR e r := if_pos hp
        have hrg2 := hrg.put e
        have hrt2 := hrt.put hrg.rise e
        obtain ⟨r2, hr2⟩ : ∃ r2, r2 = putT 29 r e := ⟨_, rfl⟩
        rw [← hr2] at hpt md2 hrg2 hrt2
        have hL2 : L2.length = 30 := md2.tab.len
        have hsl2 : (secsE L2).length = 5 := by rw [secsE_len, hL2]
        have hp2 := tab_fit0 md2.tab hrt2
        have y3E := hkp _ _ n3t n3h y3D
        have sE := hkp _ _ nst nsh sD
        have hmem : ∀ x, x ∈ r2 ↔ x = e ∨ (x ∈ r ∧ x.addr ≠ e.addr) := fun x => by rw [hpt]; exact TS.mem_putR hrg.rise
        have he2 : e ∈ r2 := (hmem e).2 (.inl rfl)
        simp -implicitDefEqProofs [hp]
        simp -implicitDefEqProofs [hr16, q_law12_ShelfForgets_16, e5]
        refine w_shelf_Put (m := 5) md2.tb hL2 (by decide) (by decide) hp2 fun v2 F hv2 => ?_
        obtain ⟨gw, hgw, wA, wF⟩ := hv2.pos (by simp [hsl2])
        rw [scA_len, hsl2] at hgw
        subst hgw
        have md3 := md2.mono hv2.sub
        have y3F := hv2.sub _ _ y3E
        have sF := hv2.sub _ _ sE
        have nwt : gw ≠ t := fun e => by rw [e, md2.tb.ct] at wA; cases wA
        have nwh : gw ≠ h := fun e => by rw [e, md2.tb.ch] at wA; cases wA
        simp -implicitDefEqProofs
        simp -implicitDefEqProofs [hr17, q_law12_ShelfForgets_17, e3, e5, y3F, e32]
        refine md3.tabDrop (by omega) hrg2 e fun L3 G md4 hkp2 => ?_
        have hdc : dropC r2 e.addr = 0 := if_pos ⟨e, he2, rfl⟩
        have hdt : dropT 29 r2 e.addr = (tS 29).dropR r2 e.addr := if_pos ⟨e, he2, rfl⟩
        have hmem3 : ∀ x, x ∈ dropT 29 r2 e.addr ↔ x ∈ r := fun x => by
          rw [hdt, TS.mem_dropR (k := e.addr) hrg2.rise (TS.ixR_lt.2 ⟨e, he2, rfl⟩), hmem]
          constructor
          · rintro ⟨rfl | h1, h2⟩
            · exact absurd rfl h2
            · exact h1.1
          · intro hx
            exact ⟨.inr ⟨hx, hno x hx⟩, hno x hx⟩
        have hL3 : L3 = L := md4.tab.uniq md.tab hmem3
        subst hL3
        have hne : ¬ secsE L3 = secsE L2 := fun he => by
          have := secsE_inj (n := 5) hLl hL2 (tab_fit md.tab hrt) (tab_fit md2.tab hrt2) he
          have h1 := (md2.tab.has e).2 he2
          rw [← this, md.tab.has] at h1
          exact hno e h1 rfl
        have sG := hkp2 _ _ nst nsh sF
        have wG := hkp2 _ _ nwt nwh wF
        simp -implicitDefEqProofs [hdc]
        simp -implicitDefEqProofs [hr19, q_law12_ShelfForgets_19, e5]
        refine w_shelf_Put (m := 5) md4.tb hLl (by decide) (by decide) hp0 fun v3 Q hv3 => ?_
        have hs3 := hv3.scl
        have sQ := hv3.sub _ _ sG
        have wQ := hv3.sub _ _ wG
        simp -implicitDefEqProofs [hs3.shp, hs3.good, hs3.comps, hs3.agg]
        simp -implicitDefEqProofs [hr20, q_law12_ShelfForgets_20, hs3.shp, hs3.good, hs3.comps, hs3.agg]
        refine (w_ref06_SameImg (secsE_sec L3) (secsE_sec L3) (by omega)).call (.cons (vw_row sQ (by simp [hLl])) rfl (.cons hv3.vw hs3.agg .nil)) rfl ?_
        simp -implicitDefEqProofs
        refine (w_ref06_SameImg (secsE_sec L3) (secsE_sec L2) (by omega)).call (.cons (vw_row sQ (by simp [hLl])) rfl (.cons (vw_row wQ (by simp [hL2])) rfl .nil)) rfl ?_
        rw [decide_eq_false hne]
        simp -implicitDefEqProofs
        refine w_law12_works.call .nil rfl ?_
        simp -implicitDefEqProofs [outOf]
      · simp -implicitDefEqProofs [hp]
        simp -implicitDefEqProofs [hr15, q_law12_ShelfForgets_15]
        refine w_law12_works.call .nil rfl ?_
        simp -implicitDefEqProofs [outOf]
end Go.Proofs.Ytilgdnbijkcboaa

/- Entries and acts among the arguments. -/
namespace Go.Proofs.Ytilgdnbijkcboaa
open Go AVL
set_option linter.unusedVariables false
set_option linter.unusedSimpArgs false

end Go.Proofs.Ytilgdnbijkcboaa

/- What comes in to the laws of shelf. -/
namespace Go.Proofs.Ytilgdnbijkcboaa
open Go AVL
set_option linter.unusedVariables false
set_option linter.unusedSimpArgs false

theorem sc_in {v : AV} (h : (ATy.iarr .u8 256).has v) : ∃ x, v = scV x ∧ Sc256 x := by
  unfold ATy.has at h
  obtain ⟨l, rfl, hl, w⟩ := h
  obtain ⟨x, rfl, hx⟩ := bytes_in w
  exact ⟨x, rfl, by simpa using hl, hx⟩
theorem scs_in : ∀ {l : List AV}, (∀ x ∈ l, (ATy.iarr .u8 256).has x) → ∃ X : List (List Nat), l = scA X ∧ ∀ x ∈ X, Sc256 x
  | [], _ => ⟨[], rfl, fun x h => by cases h⟩
  | v :: l, h => by
    obtain ⟨x, rfl, hx⟩ := sc_in (h v (by simp))
    obtain ⟨X, rfl, hX⟩ := scs_in (l := l) fun y hy => h y (by simp [hy])
    exact ⟨x :: X, rfl, fun y hy => by
      rcases List.mem_cons.1 hy with rfl | hy
      · exact hx
      · exact hX y hy⟩
end Go.Proofs.Ytilgdnbijkcboaa
