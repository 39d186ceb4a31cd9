/- Texts of this claim, in order: Em En Eo Ep Eq Es Et. -/
import Derived.Test.YtkmlndihdcplfaaH2
import Derived.Test.YtkmlndihdcplfaaL4
/- The walk of same. -/
namespace Go.Proofs.Ytkmlndihdcplfaa
open Go AVL
attribute [-simp] AV.isAgg aappI aapp alen shp good comps szOK aslc List.reduceReplicate
set_option linter.unusedVariables false
set_option linter.unusedSimpArgs false
set_option maxRecDepth 8000

theorem take_succ_eqL {α : Type} {a b : List α} {i : Nat} (ha : i < a.length) (hb : i < b.length) : (a.take (i + 1) = b.take (i + 1)) ↔ (a.take i = b.take i ∧ a[i] = b[i]) := by
  rw [List.take_succ_eq_append_getElem ha, List.take_succ_eq_append_getElem hb]
  constructor
  · intro h
    have := List.append_inj' h rfl
    exact ⟨this.1, by simpa using this.2⟩
  · rintro ⟨h1, h2⟩; rw [h1, h2]
section
variable {A B : Heap} {K Kp : AV → Heap → Prop} {gr gd fr size tail head : Nat} {L : List (List Nat)} {D : Dsk}
structure SmI (gr g3 : Nat) (vl : AV) (L M : List (List Nat)) (C0 : Heap) (i : Nat) (env : AEnv) (B : Heap) : Prop where
  le : i ≤ L.length
  e0 : env 0 = .ptr gr 0
  e3 : env 3 = .ptr g3 0
  e5 : env 5 = vl
  e7 : env 7 = .int .i64 i
  kB : C0.Sub B
  eq : L.take i = M.take i
theorem w_law36_same (h : RgAt A gr gd fr size tail head L D B) {sz mt : Nat} {v : AV} {M : List (List Nat)} (hv : LsV B v M) (hm : mt + M.length ≤ 1073741824) (hMb : ∀ b ∈ M, Bytes b)
    (hk : ∀ C, B.Sub C → K (.bool (decide (mt = tail ∧ M = L))) C) : SimX Try.prog F_law36_same [.ptr gr 0, rfV sz mt v] B (outK K Kp) := by
  have hB := h.br
  obtain ⟨b1, b2, b3, b4, b5, b6⟩ := h.bnd
  have hhd := h.hd
  have hsv := hv.scb
  refine j_law36_same (by simp) ?_
  unfold a_law36_same rfV
  obtain ⟨r2, hr2⟩ : ∃ r, r = q_law36_same_2 := ⟨_, rfl⟩; rw [← hr2]
  obtain ⟨r4, hr4⟩ : ∃ r, r = q_law36_same_4 := ⟨_, rfl⟩; rw [← hr4]
  obtain ⟨r10, hr10⟩ : ∃ r, r = q_law36_same_10 := ⟨_, rfl⟩; rw [← hr10]
  obtain ⟨r11, hr11⟩ : ∃ r, r = q_law36_same_11 := ⟨_, rfl⟩; rw [← hr11]
  obtain ⟨r12, hr12⟩ : ∃ r, r = q_law36_same_12 := ⟨_, rfl⟩; rw [← hr12]
  simp -implicitDefEqProofs [q_law36_same_0, hsv.shp, hsv.good, hsv.comps, hsv.agg, hsv.st, hsv.size]
  intro g3 hg3
  obtain ⟨Y, e1, kY, y3⟩ : ∃ Y : Heap, Y = B.set g3 (.var 42 [.int .i64 sz, .int .i64 mt, v]) ∧ B.Sub Y ∧ Y g3 = some (.var 42 [.int .i64 sz, .int .i64 mt, v]) := ⟨_, rfl, sub_none hg3, set_eq'⟩
  rw [← e1]; clear e1
  simp -implicitDefEqProofs [q_law36_same_1]
  refine w_ring_All (h.mono kY) fun vl C vs kC hw hrs => ?_
  have hs := hw.scl
  have hBC := sub_tr kY kC
  have c3 := kC _ _ y3
  have hC := hBC _ _ hB
  have hlv : ∀ F : AV → Prop, alen false vl F = F (.int .i64 L.length) := fun F => by
    have := hw.len (F := F)
    rwa [hrs.len] at this
  have hlm : ∀ F : AV → Prop, alen false v F = F (.int .i64 M.length) := fun F => hv.len
  simp -implicitDefEqProofs [hs.shp, hs.good, hs.comps, hs.agg]
  by_cases hll : L.length = M.length
  · by_cases htt : tail = mt
    · subst htt
      have hle2 : head - tail = M.length := by omega
      have hll' : (L.length : Int) = M.length := by omega
      have w1 : IntKind.i64.wrap ((tail : Int) + (M.length : Int)) = (head : Int) := by rw [wrap_i64 (by omega)]; omega
      simp -implicitDefEqProofs [hr2, q_law36_same_2, c3, hlv, hlm, hll, hll', hsv.shp, hsv.good, hsv.comps, hsv.agg, hsv.size]
      refine w_ring_First hC ?_
      simp -implicitDefEqProofs [keepC, Sub_refl, c3, hlm, w1, hsv.shp, hsv.good, hsv.comps, hsv.agg, hsv.size]
      refine w_ring_Next hC ?_
      simp -implicitDefEqProofs [keepC, Sub_refl, c3, hlm, hsv.shp, hsv.good, hsv.comps, hsv.agg, hsv.size]
      refine w_ring_Len hC (by omega) (by omega) ?_
      rw [hle2]
      simp -implicitDefEqProofs [keepC, Sub_refl]
      refine w_ring_Clean (h.mono hBC) fun E kE => ?_
      have hBE := sub_tr hBC kE
      simp -implicitDefEqProofs
      simp -implicitDefEqProofs [hr4, q_law36_same_4]
      refine X_lp (SmI gr g3 vl L M E) (fun i => L.length - i) 0 ⟨by omega, by simp, by simp, by simp, by simp, Sub_refl E, by simp⟩ ?_
      rintro i env F ⟨lei, e0, e3, e5, e7, kF, heq⟩
      have f3 := kF _ _ (kE _ _ c3)
      have hBF := sub_tr hBE kF
      rw [q_law36_same_L10]
      obtain ⟨r6, hr6⟩ : ∃ r, r = q_law36_same_6 := ⟨_, rfl⟩; rw [← hr6]
      obtain ⟨r7, hr7⟩ : ∃ r, r = q_law36_same_7 := ⟨_, rfl⟩; rw [← hr7]
      obtain ⟨r9, hr9⟩ : ∃ r, r = q_law36_same_9 := ⟨_, rfl⟩; rw [← hr9]
      simp -implicitDefEqProofs [q_law36_same_5, e5, e7, hlv]
      refine ⟨fun hlt => ?_, fun hge => ?_⟩
      · have hlt' : (i : Int) < L.length := by omega
        have him : i < M.length := by omega
        have wti : IntKind.i64.wrap ((tail : Int) + (i : Int)) = ((tail + i : Nat) : Int) := by rw [wrap_i64 (by omega)]; omega
        have wi : IntKind.i64.wrap ((i : Int) + 1) = ((i + 1 : Nat) : Int) := by rw [wrap_i64 (by omega)]; simp
        obtain ⟨N, hN⟩ : ∃ N, N = tail + i := ⟨_, rfl⟩
        rw [← hN] at wti
        simp -implicitDefEqProofs [hr6, q_law36_same_6, e0, e3, e7, f3, wti]
        refine w_ring_Read (h.mono hBF) N (fun hb => by omega) fun k hkl hNk g G kG hg hG => ?_
        have hki : k = i := by omega
        subst hki
        -- the two lists
        obtain ⟨gl, hgl, _, hglC⟩ := hw.pos (by rw [hrs.len]; omega)
        have hvl : k < vs.length := by rw [hrs.len]; exact hkl
        obtain ⟨_, ⟨gb, hgb, hgbC⟩⟩ := hrs.get k hkl
        obtain ⟨gm, im, nm, R, hvm, hgm, hinm, hMR⟩ := hv.pos (by omega)
        have kCG := sub_tr kE (sub_tr kF kG)
        have gG := kCG _ _ hglC
        have gbG := kCG _ _ hgbC
        have gmG := kCG _ _ (hBC _ _ hgm)
        have g3G := kG _ _ f3
        have hnm : M.length = nm := by rw [hMR]; simp; omega
        have hRk : im + k < (R.map bV).length := by simp; omega
        have hbm : (R.map bV)[im + k] = .isl .u8 (ints M[k]) := by
          have : M[k] = R[im + k]'(by simpa using hRk) := by simp [hMR]
          rw [this]; simp [bV]
        have hRk2 : im + k < R.length := by simpa using hRk
        have hvk : (k : Int) < vs.length := by omega
        have hknm : k < nm := by omega
        have hknm' : (k : Int) < nm := by omega
        obtain ⟨a, ha⟩ : ∃ a, a = L[k] := ⟨_, rfl⟩
        obtain ⟨b, hb⟩ : ∃ b, b = M[k] := ⟨_, rfl⟩
        have hab : Bytes a := by
          have := (h.on.rcs _ (List.getElem_mem hkl)).2
          rwa [← ha] at this
        have hbb : Bytes b := hMb b (by rw [hb]; exact List.getElem_mem him)
        rw [← ha] at hgb hgbC gbG hG ⊢
        rw [← hb] at hbm
        have hsame := w_ref01_Same a b hab hbb
        simp -implicitDefEqProofs
        simp -implicitDefEqProofs [hr7, q_law36_same_7, e3, e5, e7, hgl, gG, hvl, hvk, hgb, g3G, hvm, gmG, hRk, hRk2, hknm, hknm', hbm, shp, good, comps]
        have hts := take_succ_eqL hlt him
        refine hsame.call (.cons (vw_irow gbG (show a.length = (ints a).length by simp)) rfl (.cons (.refl _) rfl .nil)) rfl ?_
        by_cases hab2 : a = b
        · rw [decide_eq_true hab2]
          simp -implicitDefEqProofs [e3, e7, g3G, hvm, gmG, hRk, hRk2, hknm, hknm', hbm, shp, good, comps]
          refine hsame.call (.cons (vw_irow hG (show a.length = (ints a).length by simp)) rfl (.cons (.refl _) rfl .nil)) rfl ?_
          rw [decide_eq_true hab2]
          simp -implicitDefEqProofs
          simp -implicitDefEqProofs [hr9, q_law36_same_9, e7, wi, -Int.natCast_add]
          exact lp_next (k + 1) ⟨by omega, by simp [e0], by simp [e3], by simp [e5, hgl], by simp, sub_tr kF kG, hts.2 ⟨heq, by rw [← ha, ← hb]; exact hab2⟩⟩ (by omega)
        · have hno : decide (tail = tail ∧ M = L) = false := decide_eq_false fun hh => hab2 (by rw [ha, hb]; simp only [hh.2])
          rw [hno] at hk
          rw [decide_eq_false hab2]
          simp -implicitDefEqProofs [q_law36_same_8, outOf]
          exact hk G (sub_tr hBF kG)
      · have hil : i = L.length := by omega
        have hML : M = L := by
          rw [hil] at heq
          rw [List.take_length, List.take_of_length_le (by omega)] at heq
          exact heq.symm
        have hyes : decide (tail = tail ∧ M = L) = true := decide_eq_true ⟨rfl, hML⟩
        rw [hyes] at hk
        have wm : IntKind.i64.wrap ((tail : Int) - 1) = (tail : Int) - 1 := wrap_i64 (by omega)
        simp -implicitDefEqProofs [hr10, q_law36_same_10, e0, e3, f3, wm]
        refine w_ring_Read (h.mono hBF) ((tail : Int) - 1) (fun _ => ?_) fun k hkl hNk => by omega
        simp -implicitDefEqProofs
        simp -implicitDefEqProofs [hr11, q_law36_same_11, e0, e3, f3, hlm, w1, hsv.shp, hsv.good, hsv.comps, hsv.agg, hsv.size]
        refine w_ring_Read (h.mono hBF) (head : Nat) (fun _ => ?_) fun k hkl hNk => by omega
        simp -implicitDefEqProofs
        simp -implicitDefEqProofs [hr12, q_law36_same_12, outOf]
        exact hk F hBF
    · have hno : decide (mt = tail ∧ M = L) = false := decide_eq_false fun hh => htt hh.1.symm
      rw [hno] at hk
      have hll' : (L.length : Int) = M.length := by omega
      have htt' : ¬ (tail : Int) = mt := by omega
      simp -implicitDefEqProofs [hr2, q_law36_same_2, c3, hlv, hlm, hll, hll', hsv.shp, hsv.good, hsv.comps, hsv.agg, hsv.size]
      refine w_ring_First hC ?_
      simp -implicitDefEqProofs [keepC, Sub_refl, c3, hlm, htt, htt', hsv.shp, hsv.good, hsv.comps, hsv.agg, hsv.size]
      simp -implicitDefEqProofs [q_law36_same_3, outOf]
      exact hk C hBC
  · have hno : decide (mt = tail ∧ M = L) = false := decide_eq_false fun hh => hll (by rw [hh.2])
    rw [hno] at hk
    have hll' : ¬ (L.length : Int) = M.length := by omega
    simp -implicitDefEqProofs [hr2, q_law36_same_2, c3, hlv, hlm, hll, hll', hsv.shp, hsv.good, hsv.comps, hsv.agg, hsv.size]
    simp -implicitDefEqProofs [q_law36_same_3, outOf]
    exact hk C hBC
end
end Go.Proofs.Ytkmlndihdcplfaa

/- The play's own test of ring. -/
namespace Go.Proofs.Ytkmlndihdcplfaa
open Go AVL
attribute [-simp] AV.isAgg aappI aapp alen szOK aslc List.reduceReplicate
attribute [simp] shp good comps
set_option linter.unusedVariables false
set_option linter.unusedSimpArgs false
set_option maxRecDepth 8000

theorem RgL.fresh {n fr size : Nat} (h : fr + size ≤ n) (h1 : 2 ≤ size) (h2 : size ≤ 256) : RgL (List.replicate n z256) fr size 0 [] where
  fit := by simpa using h
  pos := h1
  big := h2
  len := by simp
  rcs := fun b hb => by cases hb
  num := by simp
  secs := fun i hi => by
    unfold secR
    rw [List.getElem?_nil, List.getD_eq_getElem?_getD, List.getElem?_replicate, if_pos (by omega)]; rfl
section
variable {A B : Heap} {K Kp : AV → Heap → Prop} {gr gd go fr size tail head : Nat} {L : List (List Nat)} {D : Dsk}
/-- Another ring on the same disk. -/
theorem RgAt.other (h : RgAt A go gd fr size tail head L D B) (hr : A gr = some (rgC gd fr size tail head)) : RgAt A gr gd fr size tail head L D B := ⟨hr, h.hd, h.dk, h.rest, h.on⟩
/-- A ring that is made. -/
theorem RgAt.made (h : DskAt A gd D B) (hre : Rest D) (on : RgL D.last fr size 0 []) (hg : B gr = none) : RgAt (A.set gr (rgC gd fr size 0 0)) gr gd fr size 0 0 [] D (B.set gr (rgC gd fr size 0 0)) :=
  ⟨set_eq', rfl, h.rebase hg, hre, on⟩
theorem RgAt.row (h : RgAt A gr gd fr size tail head L D B) {g : Nat} {c : Cont} (hg : B g = none) : RgAt A gr gd fr size tail head L D (B.set g c) := h.mono (sub_none hg)
/-- What is new joins the base. -/
theorem RgAt.grow (h : RgAt A gr gd fr size tail head L D B) {C : Heap} (hs : B.Sub C) : RgAt (A.plus B C) gr gd fr size tail head L D C := ⟨sub_plus h.dk.sub _ _ h.ar, h.hd, h.dk.plus hs, h.rest, h.on⟩
end
theorem set_set {A : Heap} {g : Nat} {c d : Cont} : (A.set g c).set g d = A.set g d := by
  funext x; rw [set_app, set_app, set_app]; split <;> rfl
theorem w_law36_works : Gives Try.prog F_law36_works [] (.bool true) := by
  refine v_law36_works (by simp) ?_
  unfold a_law36_works
  obtain ⟨r2, hr2⟩ : ∃ r, r = q_law36_works_2 := ⟨_, rfl⟩; rw [← hr2]
  obtain ⟨r4, hr4⟩ : ∃ r, r = q_law36_works_4 := ⟨_, rfl⟩; rw [← hr4]
  obtain ⟨r5, hr5⟩ : ∃ r, r = q_law36_works_5 := ⟨_, rfl⟩; rw [← hr5]
  obtain ⟨r6, hr6⟩ : ∃ r, r = q_law36_works_6 := ⟨_, rfl⟩; rw [← hr6]
  obtain ⟨r7, hr7⟩ : ∃ r, r = q_law36_works_7 := ⟨_, rfl⟩; rw [← hr7]
  obtain ⟨r9, hr9⟩ : ∃ r, r = q_law36_works_9 := ⟨_, rfl⟩; rw [← hr9]
  obtain ⟨r10, hr10⟩ : ∃ r, r = q_law36_works_10 := ⟨_, rfl⟩; rw [← hr10]
  obtain ⟨r11, hr11⟩ : ∃ r, r = q_law36_works_11 := ⟨_, rfl⟩; rw [← hr11]
  obtain ⟨r12, hr12⟩ : ∃ r, r = q_law36_works_12 := ⟨_, rfl⟩; rw [← hr12]
  obtain ⟨r13, hr13⟩ : ∃ r, r = q_law36_works_13 := ⟨_, rfl⟩; rw [← hr13]
  obtain ⟨r14, hr14⟩ : ∃ r, r = q_law36_works_14 := ⟨_, rfl⟩; rw [← hr14]
  obtain ⟨r15, hr15⟩ : ∃ r, r = q_law36_works_15 := ⟨_, rfl⟩; rw [← hr15]
  obtain ⟨r16, hr16⟩ : ∃ r, r = q_law36_works_16 := ⟨_, rfl⟩; rw [← hr16]
  obtain ⟨r17, hr17⟩ : ∃ r, r = q_law36_works_17 := ⟨_, rfl⟩; rw [← hr17]
  obtain ⟨r19, hr19⟩ : ∃ r, r = q_law36_works_19 := ⟨_, rfl⟩; rw [← hr19]
  obtain ⟨r20, hr20⟩ : ∃ r, r = q_law36_works_20 := ⟨_, rfl⟩; rw [← hr20]
  obtain ⟨r21, hr21⟩ : ∃ r, r = q_law36_works_21 := ⟨_, rfl⟩; rw [← hr21]
  obtain ⟨r22, hr22⟩ : ∃ r, r = q_law36_works_22 := ⟨_, rfl⟩; rw [← hr22]
  simp -implicitDefEqProofs [q_law36_works_0, q_law36_works_1]
  refine w_disk_New (fun h => by omega) fun _ gd B1 d1 => ?_
  have hres0 : Rest (Dsk.fresh (9 : Int).toNat) := ⟨rfl, rfl⟩
  have on0 : RgL (Dsk.fresh (9 : Int).toNat).last 2 3 0 [] := RgL.fresh (by decide) (by decide) (by decide)
  have hfu0 : (Dsk.fresh (9 : Int).toNat).fuse = -1 := rfl
  have hst0 : (Dsk.fresh (9 : Int).toNat).steps = 0 := rfl
  have hln0 : (Dsk.fresh (9 : Int).toNat).last.length = 9 := rfl
  obtain ⟨D0, hD0⟩ : ∃ D, D = Dsk.fresh (9 : Int).toNat := ⟨_, rfl⟩
  rw [← hD0] at d1 hres0 on0 hfu0 hst0 hln0
  simp -implicitDefEqProofs
  simp -implicitDefEqProofs [hr2, q_law36_works_2]
  simp -implicitDefEqProofs [hr4, q_law36_works_4]
  refine w_ring_New (fr := 2) (size := 3) d1 (by decide) (by decide) (by decide) (fun h => by omega) fun _ gr hgr => ?_
  have q1 := RgAt.made d1 hres0 on0 hgr
  obtain ⟨B2, hB2⟩ : ∃ B2, B2 = B1.set gr (rgC gd 2 3 0 0) := ⟨_, rfl⟩
  rw [← hB2] at q1 ⊢
  clear hB2
  simp -implicitDefEqProofs
  simp -implicitDefEqProofs [hr5, q_law36_works_5]
  refine w_ring_New (fr := 7) (size := 3) q1.dk (by decide) (by decide) (by decide) (fun _ => ?_) fun h => by omega
  simp -implicitDefEqProofs
  simp -implicitDefEqProofs [hr6, q_law36_works_6]
  refine w_ring_New_nil ?_
  simp -implicitDefEqProofs
  simp -implicitDefEqProofs [hr7, q_law36_works_7]
  simp -implicitDefEqProofs [hr9, q_law36_works_9]
  intro ga hga
  have q2 := q1.row (c := .irow T_uint8 .u8 [97]) hga
  refine w_ring_Append (b := [97]) q2 (by omega) (by decide) (BsV.row set_eq' rfl) (by unfold Bytes; decide) (by decide) (fun h => absurd h (by decide)) (fun _ h => absurd h (by decide)) (fun _ _ hc B3 q3 => ?_) fun _ _ hc => absurd (Dsk.put_free q2.rest (by omega) _ _).1 hc
  have f3 := (Dsk.put_free q2.rest (by omega) (2 + 0 % 3) (recS 0 [97])).2
  have s3 := D0.put_steps (2 + 0 % 3) (recS 0 [97])
  obtain ⟨D3, hD3⟩ : ∃ D, D = (D0.put (2 + 0 % 3) (recS 0 [97])).1 := ⟨_, rfl⟩
  rw [← hD3] at q3 f3 s3
  rw [set_set] at q3
  simp -implicitDefEqProofs
  simp -implicitDefEqProofs [hr10, q_law36_works_10]
  intro gb hgb
  have q4 := q3.row (c := .irow T_uint8 .u8 [98]) hgb
  refine w_ring_Append (b := [98]) q4 (by omega) (by decide) (BsV.row set_eq' rfl) (by unfold Bytes; decide) (by decide) (fun h => absurd h (by decide)) (fun _ h => absurd h (by decide)) (fun _ _ hc B4 q5 => ?_) fun _ _ hc => absurd (Dsk.put_free q4.rest (by omega) _ _).1 hc
  have f4 := (Dsk.put_free q4.rest (by omega) (2 + (0 + 1) % 3) (recS (0 + 1) [98])).2
  have s4 := D3.put_steps (2 + (0 + 1) % 3) (recS (0 + 1) [98])
  obtain ⟨D4, hD4⟩ : ∃ D, D = (D3.put (2 + (0 + 1) % 3) (recS (0 + 1) [98])).1 := ⟨_, rfl⟩
  rw [← hD4] at q5 f4 s4
  rw [set_set] at q5
  simp -implicitDefEqProofs
  simp -implicitDefEqProofs [hr11, q_law36_works_11]
  intro gc hgc
  have q6 := q5.row (c := .irow T_uint8 .u8 [99]) hgc
  refine w_ring_Append (b := [99]) q6 (by omega) (by decide) (BsV.row set_eq' rfl) (by unfold Bytes; decide) (by decide) (fun h => absurd h (by decide)) (fun _ h => absurd h (by decide)) (fun _ _ hc B5 q7 => ?_) fun _ _ hc => absurd (Dsk.put_free q6.rest (by omega) _ _).1 hc
  have f5 := (Dsk.put_free q6.rest (by omega) (2 + (0 + 1 + 1) % 3) (recS (0 + 1 + 1) [99])).2
  have s5 := D4.put_steps (2 + (0 + 1 + 1) % 3) (recS (0 + 1 + 1) [99])
  obtain ⟨D5, hD5⟩ : ∃ D, D = (D4.put (2 + (0 + 1 + 1) % 3) (recS (0 + 1 + 1) [99])).1 := ⟨_, rfl⟩
  rw [← hD5] at q7 f5 s5
  rw [set_set] at q7
  simp -implicitDefEqProofs
  simp -implicitDefEqProofs [hr12, q_law36_works_12]
  intro ge hge
  have q8 := q7.row (c := .irow T_uint8 .u8 [100]) hge
  refine w_ring_Append (b := [100]) q8 (by omega) (by decide) (BsV.row set_eq' rfl) (by unfold Bytes; decide) (by decide) (fun _ => ?_) (fun h => absurd h (by decide)) (fun h => absurd h (by decide)) fun h => absurd h (by decide)
  simp -implicitDefEqProofs
  simp -implicitDefEqProofs [hr13, q_law36_works_13]
  refine w_ring_Drop q8 (by omega) 2 (fun j D6 B6 hj q9 s6 f6 => ?_) fun hf => absurd (show D5.fuse < 0 by omega) hf
  have hj2 : j = 2 := by
    have : endT 0 (0 + 1 + 1 + 1) 2 = 2 := by decide
    omega
  subst hj2
  rw [set_set] at q9
  have hL : List.drop 2 ([] ++ [[97]] ++ [[98]] ++ [[99]]) = [[99]] := rfl
  rw [hL] at q9
  simp -implicitDefEqProofs
  simp -implicitDefEqProofs [hr14, q_law36_works_14]
  refine w_ring_Read q9 2 (fun h => absurd h (by decide)) fun k hk hk2 g B7 k7 hg7 b7 => ?_
  have hk0 : k = 0 := by simpa using hk
  subst hk0
  have q10 := q9.grow k7
  have a7 : ∀ A : Heap, (A.plus B6 B7) g = some (.irow T_uint8 .u8 (ints [99])) := fun A => by rw [plus_new hg7]; exact b7
  simp -implicitDefEqProofs
  simp -implicitDefEqProofs [hr15, q_law36_works_15]
  refine w_ring_Read q10 1 (fun _ => ?_) fun k hk hk2 => by omega
  simp -implicitDefEqProofs
  simp -implicitDefEqProofs [hr16, q_law36_works_16]
  have f9 : D6.fuse < 0 := by rw [f6 (by omega)]; omega
  refine w_ring_Open (fr := 2) (size := 3) (tail := 0 + 2) (L := [[99]]) (next := 0) q10.dk q10.rest q10.on f9 (by omega) (fun h => by cases h) (by decide) fun go D7 B8 hgo q11 f7 s7 => ?_
  have a8 := (sub_none hgo (c := rgC gd 2 3 (0 + 2) (0 + 2 + [[99]].length))) _ _ (a7 _)
  have b8 := q11.dk.sub _ _ a8
  have q12 := q11.other ((sub_none hgo) _ _ q10.ar)
  simp -implicitDefEqProofs
  simp -implicitDefEqProofs [hr17, q_law36_works_17]
  simp -implicitDefEqProofs [hr19, q_law36_works_19]
  refine w_ring_All q11 fun vl B9 vs k9 hw hrs => ?_
  have hsl := hw.scl
  have b9 := k9 _ _ b8
  have hvl : ∀ F : AV → Prop, alen false vl F = F (.int .i64 1) := fun F => by
    have := hw.len (F := F)
    rwa [hrs.len] at this
  have q13 := q11.mono k9
  have q14 := q12.mono k9
  simp -implicitDefEqProofs [hsl.shp, hsl.good, hsl.comps, hsl.agg]
  simp -implicitDefEqProofs [hr20, q_law36_works_20]
  intro gz hgz
  have b10 := (sub_none hgz (c := .irow T_uint8 .u8 [122])) _ _ b9
  have hP := w_ring_Put_ok (n := 7) (b := [122]) ⟨by decide, by decide, by unfold Bytes; decide⟩
  have hget := get_rec (n := 7) (b := [122]) ⟨by decide, by decide, by unfold Bytes; decide⟩
  have hsec : Sec (recS 7 [122]) := ⟨recS_len _ _, recS_bytes ⟨by decide, by decide, by unfold Bytes; decide⟩⟩
  obtain ⟨S, hS⟩ : ∃ S, S = recS 7 [122] := ⟨_, rfl⟩
  rw [← hS] at hP hget hsec
  have hvz : Vw (B9.set gz (.irow T_uint8 .u8 [122])) (.own gz 0 1) (.isl .u8 (ints [122])) := vw_irow set_eq' rfl
  have q15 := q13.row (c := .irow T_uint8 .u8 [122]) hgz
  have q16 := q14.row (c := .irow T_uint8 .u8 [122]) hgz
  refine hP.call (.cons (.refl _) rfl (.cons hvz rfl .nil)) rfl ?_
  simp -implicitDefEqProofs [hsec.1]
  intro g23 n1 n2 hB9
  have hg23 : (B9.set gz (.irow T_uint8 .u8 [122])) g23 = none := by rw [set_ne' n1]; exact hB9
  have q17 := q15.row (c := .var 23 [.iarr .u8 256 (ints S)]) hg23
  have q18 := q16.row (c := .var 23 [.iarr .u8 256 (ints S)]) hg23
  obtain ⟨Z, hZ⟩ : ∃ Z, Z = (B9.set gz (.irow T_uint8 .u8 [122])).set g23 (.var 23 [.iarr .u8 256 (ints S)]) := ⟨_, rfl⟩
  have hZ2 : (B9.set gz (.irow 5 .u8 [122])).set g23 (.var 23 [.iarr .u8 256 (ints S)]) = Z := hZ.symm
  try simp only [hZ2]
  rw [← hZ] at q17 q18
  have z23 : Z g23 = some (.var 23 [.iarr .u8 256 (ints S)]) := by rw [hZ, set_eq']
  have zg : Z g = some (.irow T_uint8 .u8 (ints [99])) := by rw [hZ]; exact (sub_none hg23) _ _ b10
  clear hZ hZ2
  simp -implicitDefEqProofs [hr21, q_law36_works_21, z23, hsec.1]
  refine w_ring_Get hsec (fun hno => by rw [hget.1] at hno; cases hno) fun _ g26 E kE hg26 e26 => ?_
  rw [hget.2.1, hget.2.2.1]
  rw [hget.2.2.1] at e26
  have q19 := q17.mono kE
  have q20 := q18.mono kE
  have eg := kE _ _ zg
  have hI99 : ints [99] = [99] := rfl
  have hI122 : ints [122] = [122] := rfl
  rw [hI99] at eg
  rw [hI122] at e26
  simp -implicitDefEqProofs
  have hs1 : ∀ n : Nat, (strOf [(n : Int)]).toList = [UInt8.ofNat n] := fun n => by
    rw [show ([(n : Int)] : List Int) = ints [n] from rfl, Go.ByteArray.toList_eq, strOf_ints, sN_data]; rfl
  have hs99 : (strOf [99]).toList = [99] := hs1 99
  have hs122 : (strOf [122]).toList = [122] := hs1 122
  simp -implicitDefEqProofs [hr22, q_law36_works_22, eg, hs99, hvl, hsl.shp, hsl.good, hsl.comps, hsl.agg]
  refine w_ring_First q19.br ?_
  simp -implicitDefEqProofs
  refine w_ring_Next q19.br ?_
  simp -implicitDefEqProofs
  refine w_ring_Len q19.br (by decide) (by decide) ?_
  simp -implicitDefEqProofs
  refine w_ring_Clean q20 fun F kF => ?_
  have f26 := kF _ _ e26
  simp -implicitDefEqProofs [f26, hs122, outOf]
end Go.Proofs.Ytkmlndihdcplfaa

/- RingSectors. -/
namespace Go.Proofs.Ytkmlndihdcplfaa
open Go AVL
attribute [-simp] AV.isAgg aappI aapp alen szOK aslc List.reduceReplicate
attribute [simp] shp good comps
set_option linter.unusedVariables false
set_option linter.unusedSimpArgs false
set_option maxRecDepth 8000

theorem w_RingSectors (n : Int) {b : List Nat} (hb : Bytes b) (hbl : b.length < 2 ^ 63) {x : List Nat} (hx : Sec x) : Gives Try.prog F_law36_RingSectors [.int .i64 n, .isl .u8 (ints b), .iarr .u8 256 (ints x)] (.bool true) := by
  have hxl := hx.1
  refine v_law36_RingSectors (by simp) ?_
  unfold a_law36_RingSectors
  obtain ⟨r3, hr3⟩ : ∃ r, r = q_law36_RingSectors_3 := ⟨_, rfl⟩; rw [← hr3]
  obtain ⟨r4, hr4⟩ : ∃ r, r = q_law36_RingSectors_4 := ⟨_, rfl⟩; rw [← hr4]
  obtain ⟨r5, hr5⟩ : ∃ r, r = q_law36_RingSectors_5 := ⟨_, rfl⟩; rw [← hr5]
  obtain ⟨r6, hr6⟩ : ∃ r, r = q_law36_RingSectors_6 := ⟨_, rfl⟩; rw [← hr6]
  obtain ⟨r7, hr7⟩ : ∃ r, r = q_law36_RingSectors_7 := ⟨_, rfl⟩; rw [← hr7]
  simp -implicitDefEqProofs [q_law36_RingSectors_0, hxl]
  intro g5
  obtain ⟨Y, e1, _, y5⟩ : ∃ Y : Heap, Y = H0.set g5 (.var 23 [.iarr .u8 256 (ints x)]) ∧ True ∧ Y g5 = some (.var 23 [.iarr .u8 256 (ints x)]) := ⟨_, rfl, trivial, set_eq'⟩
  rw [← e1]; clear e1
  by_cases h400 : (400 : Int) < b.length
  · simp -implicitDefEqProofs [q_law36_RingSectors_1, q_law36_RingSectors_2, h400]
    refine w_law36_works.call .nil rfl ?_
    simp -implicitDefEqProofs [outOf]
  have hP := w_ring_Put n hb hbl
  have hQ := w_ref36_Put n hb hbl
  have hSl : (putRS n b).length = 256 := by
    unfold putRS
    split
    · exact recS_len _ _
    · simp [z256]
  obtain ⟨S, hS⟩ : ∃ S, S = putRS n b := ⟨_, rfl⟩
  obtain ⟨c, hc⟩ : ∃ c, c = putRC n b := ⟨_, rfl⟩
  rw [← hS, ← hc] at hP hQ
  rw [← hS] at hSl
  have hSe : eqI 256 (ints S) (ints S) = true := by rw [eqI_ints hSl hSl]; simp
  simp -implicitDefEqProofs [q_law36_RingSectors_1, h400]
  simp -implicitDefEqProofs [hr3, q_law36_RingSectors_3]
  refine hP.call (.cons (.refl _) rfl (.cons (.refl _) rfl .nil)) rfl ?_
  simp -implicitDefEqProofs [hSl]
  intro g7 hg7
  obtain ⟨Z, e1, kZ, z7⟩ : ∃ Z : Heap, Z = Y.set g7 (.var 23 [.iarr .u8 256 (ints S)]) ∧ Y.Sub Z ∧ Z g7 = some (.var 23 [.iarr .u8 256 (ints S)]) := ⟨_, rfl, sub_none hg7, set_eq'⟩
  rw [← e1]; clear e1
  simp -implicitDefEqProofs [hr4, q_law36_RingSectors_4]
  refine hQ.call (.cons (.refl _) rfl (.cons (.refl _) rfl .nil)) rfl ?_
  simp -implicitDefEqProofs [hSl]
  intro g9 hg9
  obtain ⟨W, e1, kW, w9⟩ : ∃ W : Heap, W = Z.set g9 (.var 23 [.iarr .u8 256 (ints S)]) ∧ Z.Sub W ∧ W g9 = some (.var 23 [.iarr .u8 256 (ints S)]) := ⟨_, rfl, sub_none hg9, set_eq'⟩
  rw [← e1]; clear e1
  have w7 := kW _ _ z7
  have w5 := kW _ _ (kZ _ _ y5)
  simp -implicitDefEqProofs [hr5, q_law36_RingSectors_5, w5, hxl]
  refine w_ring_Get hx (fun hno C v r kC hv m => ?_) fun hyes g C kC hg hC => ?_
  · have hsv := hv.scl
    have c5 := kC _ _ w5
    simp -implicitDefEqProofs [hsv.shp, hsv.good, hsv.comps, hsv.agg]
    simp -implicitDefEqProofs [hr6, q_law36_RingSectors_6, c5, hxl]
    refine w_ref36_Get hx (fun _ E kE => ?_) fun hyes => by rw [hno] at hyes; cases hyes
    have e7 := kE _ _ (kC _ _ w7)
    have e9 := kE _ _ (kC _ _ w9)
    simp -implicitDefEqProofs
    simp -implicitDefEqProofs [hr7, q_law36_RingSectors_7, e7, e9, hSl, hSe, hsv.shp, hsv.good, hsv.comps, hsv.agg]
    refine w_law36_works.call .nil rfl ?_
    simp -implicitDefEqProofs [outOf]
  · have c5 := kC _ _ w5
    have hbb : Bytes (getB x) := bytes_take (bytes_drop hx.2 _) _
    simp -implicitDefEqProofs
    simp -implicitDefEqProofs [hr6, q_law36_RingSectors_6, c5, hxl]
    refine w_ref36_Get hx (fun hno => by rw [hno] at hyes; cases hyes) fun _ v E kE hv => ?_
    have hsv := hv.scb
    have e7 := kE _ _ (kC _ _ w7)
    have e9 := kE _ _ (kC _ _ w9)
    have eg := kE _ _ hC
    have hsame := w_ref01_Same (getB x) (getB x) hbb hbb
    simp -implicitDefEqProofs [hsv.shp, hsv.good, hsv.comps, hsv.agg]
    simp -implicitDefEqProofs [hr7, q_law36_RingSectors_7, e7, e9, hSl, hSe, hsv.shp, hsv.good, hsv.comps, hsv.agg]
    refine hsame.call (.cons (vw_irow eg (show (getB x).length = (ints (getB x)).length by simp)) rfl (.cons hv.vw hsv.agg .nil)) rfl ?_
    simp -implicitDefEqProofs
    refine w_law36_works.call .nil rfl ?_
    simp -implicitDefEqProofs [outOf]
end Go.Proofs.Ytkmlndihdcplfaa

/- RingTurns. -/
namespace Go.Proofs.Ytkmlndihdcplfaa
open Go AVL
attribute [-simp] AV.isAgg aappI aapp alen szOK aslc List.reduceReplicate
attribute [simp] shp good comps
set_option linter.unusedVariables false
set_option linter.unusedSimpArgs false
set_option maxRecDepth 8000

structure TnI (gr gd n : Nat) (l : List (List Nat)) (i : Nat) (env : AEnv) (B : Heap) : Prop where
  le : i ≤ l.length
  e1 : env 1 = .dsl 1 (l.map bV)
  e5 : env 5 = .int .i64 n
  e8 : env 8 = .ptr gr 0
  e10 : env 10 = .int .i64 i
  md : ∃ A D, RgAt A gr gd 0 n (i - n) i ((l.take i).drop (i - n)) D B ∧ D.fuse < 0 ∧ D.steps ≤ 4 * i
structure TmI (gr n : Nat) (l : List (List Nat)) (B0 : Heap) (i : Nat) (env : AEnv) (B : Heap) : Prop where
  le : i ≤ l.length
  e1 : env 1 = .dsl 1 (l.map bV)
  e5 : env 5 = .int .i64 n
  e8 : env 8 = .ptr gr 0
  e13 : env 13 = .int .i64 i
  kB : B0.Sub B
theorem bVs_get {l : List (List Nat)} {i : Nat} (h : i < (l.map bV).length) : (l.map bV)[i] = .isl .u8 (ints (l[i]'(by simpa using h))) := by simp [bV]
theorem w_RingTurns (c : Nat) (hc : c < 256) (l : List (List Nat)) (hl : l.length < 2 ^ 63) (hlb : ∀ b ∈ l, Bytes b ∧ b.length < 2 ^ 63) : Gives Try.prog F_law36_RingTurns [.int .u8 c, .dsl 1 (l.map bV)] (.bool true) := by
  refine v_law36_RingTurns (by simp) ?_
  unfold a_law36_RingTurns
  obtain ⟨r3, hr3⟩ : ∃ r, r = q_law36_RingTurns_3 := ⟨_, rfl⟩; rw [← hr3]
  obtain ⟨r4, hr4⟩ : ∃ r, r = q_law36_RingTurns_4 := ⟨_, rfl⟩; rw [← hr4]
  obtain ⟨r5, hr5⟩ : ∃ r, r = q_law36_RingTurns_5 := ⟨_, rfl⟩; rw [← hr5]
  obtain ⟨r7, hr7⟩ : ∃ r, r = q_law36_RingTurns_7 := ⟨_, rfl⟩; rw [← hr7]
  obtain ⟨r8, hr8⟩ : ∃ r, r = q_law36_RingTurns_8 := ⟨_, rfl⟩; rw [← hr8]
  obtain ⟨r10, hr10⟩ : ∃ r, r = q_law36_RingTurns_10 := ⟨_, rfl⟩; rw [← hr10]
  obtain ⟨r20, hr20⟩ : ∃ r, r = q_law36_RingTurns_20 := ⟨_, rfl⟩; rw [← hr20]
  obtain ⟨r27, hr27⟩ : ∃ r, r = q_law36_RingTurns_27 := ⟨_, rfl⟩; rw [← hr27]
  obtain ⟨r28, hr28⟩ : ∃ r, r = q_law36_RingTurns_28 := ⟨_, rfl⟩; rw [← hr28]
  by_cases h100 : (100 : Int) < l.length
  · simp -implicitDefEqProofs [q_law36_RingTurns_0, q_law36_RingTurns_1, q_law36_RingTurns_2, h100]
    refine w_law36_works.call .nil rfl ?_
    simp -implicitDefEqProofs [outOf]
  obtain ⟨n, hn⟩ : ∃ n, n = 2 + c % 8 := ⟨_, rfl⟩
  have hn2 : 2 ≤ n ∧ n ≤ 9 := by omega
  have u1 : IntKind.i64.wrap (c : Int) = (c : Int) := wrap_i64 (by omega)
  have u2 : (c : Int).tmod 8 = ((c % 8 : Nat) : Int) := (Int.ofNat_tmod c 8).symm
  obtain ⟨q, hq⟩ : ∃ q, q = c % 8 := ⟨_, rfl⟩
  rw [← hq] at u2 hn
  have u3 : IntKind.i64.wrap (q : Int) = (q : Int) := wrap_i64 (by omega)
  have u4 : IntKind.i64.wrap (2 + (q : Int)) = (n : Int) := by rw [wrap_i64 (by omega)]; omega
  simp -implicitDefEqProofs [q_law36_RingTurns_0, q_law36_RingTurns_1, h100]
  simp -implicitDefEqProofs [hr3, q_law36_RingTurns_3, u1, u2, u3, u4]
  simp -implicitDefEqProofs [hr4, q_law36_RingTurns_4]
  refine w_disk_New (fun h => by omega) fun _ gd B1 d1 => ?_
  rw [Int.toNat_natCast] at d1
  have hres0 : Rest (Dsk.fresh n) := ⟨rfl, rfl⟩
  have on0 : RgL (Dsk.fresh n).last 0 n 0 [] := RgL.fresh (by omega) (by omega) (by omega)
  have hfu0 : (Dsk.fresh n).fuse = -1 := rfl
  have hst0 : (Dsk.fresh n).steps = 0 := rfl
  have hln0 : (Dsk.fresh n).last.length = n := by simp [Dsk.fresh]
  obtain ⟨D0, hD0⟩ : ∃ D, D = Dsk.fresh n := ⟨_, rfl⟩
  rw [← hD0] at d1 hres0 on0 hfu0 hst0 hln0
  simp -implicitDefEqProofs
  simp -implicitDefEqProofs [hr5, q_law36_RingTurns_5]
  simp -implicitDefEqProofs [hr7, q_law36_RingTurns_7]
  refine w_ring_New (fr := 0) (size := n) d1 (by omega) (by omega) (by decide) (fun h => by omega) fun _ gr hgr => ?_
  have q1 := RgAt.made d1 hres0 on0 hgr
  obtain ⟨B2, hB2⟩ : ∃ B2, B2 = B1.set gr (rgC gd 0 n 0 0) := ⟨_, rfl⟩
  rw [← hB2] at q1 ⊢
  clear hB2
  simp -implicitDefEqProofs
  simp -implicitDefEqProofs [hr8, q_law36_RingTurns_8]
  simp -implicitDefEqProofs [hr10, q_law36_RingTurns_10]
  refine X_lp (TnI gr gd n l) (fun i => l.length - i) 0 ⟨by omega, by simp, by simp, by simp, by simp, ⟨_, D0, by simpa using q1, by omega, by omega⟩⟩ ?_
  clear q1 d1
  rintro i env B ⟨hil, e1, e5, e8, e10, ⟨A, D, hrg, hfu, hst⟩⟩
  rw [q_law36_RingTurns_L20]
  obtain ⟨r14, hr14⟩ : ∃ r, r = q_law36_RingTurns_14 := ⟨_, rfl⟩; rw [← hr14]
  obtain ⟨r15, hr15⟩ : ∃ r, r = q_law36_RingTurns_15 := ⟨_, rfl⟩; rw [← hr15]
  obtain ⟨r16, hr16⟩ : ∃ r, r = q_law36_RingTurns_16 := ⟨_, rfl⟩; rw [← hr16]
  obtain ⟨r17, hr17⟩ : ∃ r, r = q_law36_RingTurns_17 := ⟨_, rfl⟩; rw [← hr17]
  obtain ⟨r19, hr19⟩ : ∃ r, r = q_law36_RingTurns_19 := ⟨_, rfl⟩; rw [← hr19]
  obtain ⟨t, ht⟩ : ∃ t, t = i - n := ⟨_, rfl⟩
  rw [← ht] at hrg
  have hLl : ((l.take i).drop t).length = i - t := by simp; omega
  simp -implicitDefEqProofs [q_law36_RingTurns_11, e1, e10]
  refine ⟨fun hlt => ?_, fun hge => ?_⟩
  · have hii : (i : Int) < l.length := by omega
    have hbi := hlb _ (List.getElem_mem hlt)
    have htk : l.take (i + 1) = l.take i ++ [l[i]] := List.take_succ_eq_append_getElem hlt
    obtain ⟨b, hb⟩ : ∃ b, b = l[i] := ⟨_, rfl⟩
    have hbe : (l.map bV)[i]'(by simpa using hlt) = .isl .u8 (ints b) := by rw [bVs_get, hb]
    rw [← hb] at hbi htk
    by_cases hbig : (224 : Int) < b.length
    · simp -implicitDefEqProofs [q_law36_RingTurns_12, q_law36_RingTurns_13, e1, e10, hlt, hii, hbe, hbig]
      refine w_law36_works.call .nil rfl ?_
      simp -implicitDefEqProofs [outOf]
    have hb224 : b.length ≤ 224 := by omega
    have wi : IntKind.i64.wrap ((i : Int) + 1) = ((i + 1 : Nat) : Int) := by rw [wrap_i64 (by omega)]; simp
    have tail : ∀ (env' : AEnv) (C A' : Heap) (t' : Nat) (D' : Dsk), env' 1 = .dsl 1 (l.map bV) → env' 5 = .int .i64 n → env' 8 = .ptr gr 0 → env' 10 = .int .i64 i → t' = i + 1 - n → RgAt A' gr gd 0 n t' i ((l.take i).drop t') D' C → D'.fuse < 0 → D'.steps ≤ D.steps + 2 →
        AVL.X Try.prog (lp Try.prog (fin [ARes.tmp 4] (AV.bool true)) (Kt.blk 0 (Kt.thn (.seq (.seq (.region r20) (.block 2 (.loop q_law36_RingTurns_L27))) (.seq (.region r27) (.seq (.region r28) .ret))) Kt.done)) (TnI gr gd n l) (fun i => l.length - i) i)
          (.seq (.region r16) (.seq (.region r17) (.cond (.t 87) (.seq (.region q_law36_RingTurns_18) .ret) .skip))) (Kt.blk 1 (Kt.thn (.region r19) Kt.done)) env' C := by
      intro env' C A' t' D' f1 f5 f8 f10 ht' hrg' hfu' hst'
      have hLl' : ((l.take i).drop t').length = i - t' := by simp; omega
      simp -implicitDefEqProofs [hr16, q_law36_RingTurns_16, f1, f8, f10, hlt, hii, hbe]
      refine w_ring_Append (b := b) hrg' (by omega) (by omega) (BsV.isl b) hbi.1 (by omega) (fun h => by omega) (fun _ h => by omega) (fun _ _ _ C2 hrg2 => ?_) fun _ _ hne => absurd (Dsk.put_free hrg'.rest hfu' _ _).1 hne
      have hf2 := (Dsk.put_free hrg'.rest hfu' (0 + i % n) (recS i b)).2
      have hs2 := D'.put_steps (0 + i % n) (recS i b)
      obtain ⟨D2, hD2⟩ : ∃ D2, D2 = (D'.put (0 + i % n) (recS i b)).1 := ⟨_, rfl⟩
      rw [← hD2] at hrg2 hf2 hs2
      simp -implicitDefEqProofs
      simp -implicitDefEqProofs [hr17, q_law36_RingTurns_17, f10]
      simp -implicitDefEqProofs [hr19, q_law36_RingTurns_19, f10, wi, -Int.natCast_add]
      refine lp_next (i + 1) ⟨by omega, by simp [f1], by simp [f5], by simp [f8], by simp, ⟨A'.set gr (rgC gd 0 n t' (i + 1)), D2, ?_, by omega, by omega⟩⟩ (by omega)
      have hdr : (l.take (i + 1)).drop (i + 1 - n) = (l.take i).drop t' ++ [b] := by
        rw [htk, ← ht', List.drop_append_of_le_length (by simp; omega)]
      rw [hdr, ← ht']
      exact hrg2
    have b3 := hrg.bnd
    obtain ⟨Q, hQ⟩ : ∃ Q, Q = i - t := ⟨_, rfl⟩
    simp -implicitDefEqProofs [q_law36_RingTurns_12, e1, e10, hlt, hii, hbe, hbig]
    simp -implicitDefEqProofs [hr14, q_law36_RingTurns_14, e8]
    refine w_ring_Len hrg.br (by omega) (by omega) ?_
    rw [← hQ]
    by_cases hfull : Q = n
    · have hfull' : (Q : Int) = n := by omega
      have wt : IntKind.i64.wrap ((t : Int) + 1) = ((t + 1 : Nat) : Int) := by rw [wrap_i64 (by omega)]; simp
      obtain ⟨T1, hT1⟩ : ∃ T1, T1 = t + 1 := ⟨_, rfl⟩
      rw [← hT1] at wt
      simp -implicitDefEqProofs [e5, hfull, hfull']
      simp -implicitDefEqProofs [hr15, q_law36_RingTurns_15, e8]
      refine w_ring_First hrg.br ?_
      simp -implicitDefEqProofs [wt]
      refine w_ring_Drop hrg (by omega) (T1 : Nat) (fun j D' B' hj hrg' hs' hf' => ?_) fun hf => absurd hfu hf
      have hj1 : j = 1 := by
        unfold endT at hj
        omega
      subst hj1
      rw [List.drop_drop] at hrg'
      simp -implicitDefEqProofs
      exact tail _ B' _ (t + 1) D' (by simp [e1]) (by simp [e5]) (by simp [e8]) (by simp [e10]) (by omega) hrg' (by rw [hf' hfu]; exact hfu) (by omega)
    · have hfull' : ¬ (Q : Int) = n := by omega
      simp -implicitDefEqProofs [e5, hfull, hfull']
      exact tail _ B A t D (by simp [e1]) (by simp [e5]) (by simp [e8]) (by simp [e10]) (by omega) hrg hfu (by omega)
  · have hie : i = l.length := by omega
    rw [hie] at hrg hLl
    rw [List.take_length] at hrg hLl
    simp -implicitDefEqProofs [hr20, q_law36_RingTurns_20]
    refine X_lp (TmI gr n l B) (fun i => l.length - i) 0 ⟨by omega, by simp [e1], by simp [e5], by simp [e8], by simp, Sub_refl B⟩ ?_
    clear e1 e5 e8 e10
    rintro j env C ⟨hjl, e1, e5, e8, e13, kC⟩
    have hrgC := hrg.mono kC
    have b3 := hrg.bnd
    rw [q_law36_RingTurns_L27]
    obtain ⟨r23, hr23⟩ : ∃ r, r = q_law36_RingTurns_23 := ⟨_, rfl⟩; rw [← hr23]
    obtain ⟨r24, hr24⟩ : ∃ r, r = q_law36_RingTurns_24 := ⟨_, rfl⟩; rw [← hr24]
    obtain ⟨r26, hr26⟩ : ∃ r, r = q_law36_RingTurns_26 := ⟨_, rfl⟩; rw [← hr26]
    simp -implicitDefEqProofs [q_law36_RingTurns_21, e1, e13]
    refine ⟨fun hlt => ?_, fun hge => ?_⟩
    · have hjj : (j : Int) < l.length := by omega
      have wj : IntKind.i64.wrap ((j : Int) + 1) = ((j + 1 : Nat) : Int) := by rw [wrap_i64 (by omega)]; simp
      have wd : IntKind.i64.wrap ((l.length : Int) - (n : Int)) = (l.length : Int) - n := wrap_i64 (by omega)
      obtain ⟨Q, hQ⟩ : ∃ Q : Int, Q = (l.length : Int) - n := ⟨_, rfl⟩
      rw [← hQ] at wd
      simp -implicitDefEqProofs [q_law36_RingTurns_22, e8, e13]
      refine w_ring_Read hrgC (j : Nat) (fun hno => ?_) fun k hk hjk g E kE hg hE => ?_
      · have hth : ¬ Q ≤ (j : Int) := by omega
        simp -implicitDefEqProofs
        simp -implicitDefEqProofs [hr23, q_law36_RingTurns_23, e1, e5, e13, ← hQ, wd, hth]
        simp -implicitDefEqProofs [hr24, q_law36_RingTurns_24]
        simp -implicitDefEqProofs [hr26, q_law36_RingTurns_26, e13, wj, -Int.natCast_add]
        exact lp_next (j + 1) ⟨by omega, by simp [e1], by simp [e5], by simp [e8], by simp, kC⟩ (by omega)
      · have hth : Q ≤ (j : Int) := by omega
        have hdk : (l.drop t)[k] = l[j] := by
          simp only [List.getElem_drop]
          congr 1
          omega
        have hbj := hlb _ (List.getElem_mem hlt)
        obtain ⟨b, hb⟩ : ∃ b, b = l[j] := ⟨_, rfl⟩
        have hbe : (l.map bV)[j]'(by simpa using hlt) = .isl .u8 (ints b) := by rw [bVs_get, hb]
        rw [hdk, ← hb] at hE ⊢
        rw [← hb] at hbj
        simp -implicitDefEqProofs
        simp -implicitDefEqProofs [hr23, q_law36_RingTurns_23, e1, e5, e13, ← hQ, wd, hth]
        simp -implicitDefEqProofs [hr24, q_law36_RingTurns_24, e1, e13, hlt, hjj, hbe]
        refine (w_ref01_Same b b hbj.1 hbj.1).call (.cons (vw_irow hE (show b.length = (ints b).length by simp)) rfl (.cons (.refl _) rfl .nil)) rfl ?_
        simp -implicitDefEqProofs
        simp -implicitDefEqProofs [hr26, q_law36_RingTurns_26, e13, wj, -Int.natCast_add]
        exact lp_next (j + 1) ⟨by omega, by simp [e1], by simp [e5], by simp [e8], by simp, sub_tr kC kE⟩ (by omega)
    · simp -implicitDefEqProofs [hr27, q_law36_RingTurns_27, e1, e8]
      refine w_ring_Read hrgC (l.length : Nat) (fun _ => ?_) fun k hk hjk => by omega
      simp -implicitDefEqProofs
      simp -implicitDefEqProofs [hr28, q_law36_RingTurns_28, e8]
      refine w_ring_Clean hrgC fun E kE => ?_
      simp -implicitDefEqProofs
      refine w_law36_works.call .nil rfl ?_
      simp -implicitDefEqProofs [outOf]
end Go.Proofs.Ytkmlndihdcplfaa

/- RingDoes. -/
namespace Go.Proofs.Ytkmlndihdcplfaa
open Go AVL
attribute [-simp] AV.isAgg aappI aapp alen shp good comps szOK aslc List.reduceReplicate
set_option linter.unusedVariables false
set_option linter.unusedSimpArgs false
set_option maxRecDepth 8000

/-- All that is no disk's is base. -/
theorem DskAt.wide {A B : Heap} {g : Nat} {D : Dsk} (h : DskAt A g D B) : ∃ A' : Heap, A.Sub A' ∧ DskAt A' g D B ∧ ∀ x c, B x = some c → x ≠ g → (∀ l, c ≠ .row T_256_uint8 256 l) → (∀ l, c ≠ .row T_disk_write 257 l) → (∀ m, c ≠ .mp .i64 m) → A' x = some c := by
  classical
  obtain ⟨gl, v, gm, h⟩ := h
  obtain ⟨m, h1, h2⟩ := h.now
  refine ⟨fun x => if x = g ∨ x = gl ∨ x = gm ∨ (∃ n, v = .own x 0 n) then none else B x, fun x c hx => ?_, ⟨gl, v, gm, h.wf, by simp, by simp, by simp, h.at', h.row, ⟨fun x c hx => ?_, ?_⟩, m, h1, h2⟩, fun x c hx hn hl hw hm => ?_⟩
  · have n1 : x ≠ g := fun e => by rw [e, h.ag] at hx; cases hx
    have n2 : x ≠ gl := fun e => by rw [e, h.al] at hx; cases hx
    have n3 : x ≠ gm := fun e => by rw [e, h.am] at hx; cases hx
    have n4 : ¬ ∃ n, v = .own x 0 n := fun ⟨n, e⟩ => h.wait.not_base hx n e
    simp only [n1, n2, n3, n4, or_self, if_false]
    exact h.wait.sub _ _ hx
  · split at hx
    · cases hx
    · exact hx
  · refine h.wait.own.imp id fun ⟨y, e1, e2, e3⟩ => ⟨y, e1, ?_, e3⟩
    have : ∃ n, v = .own y 0 n := ⟨_, e1⟩
    simp [this]
  · have n2 : x ≠ gl := fun e => by rw [e, h.row] at hx; injection hx with hx; exact hl _ hx.symm
    have n3 : x ≠ gm := fun e => by rw [e, h1] at hx; injection hx with hx; exact hm _ hx.symm
    have n4 : ¬ ∃ n, v = .own x 0 n := fun ⟨n, e⟩ => h.wait.ne hx hw n e
    simp only [hn, n2, n3, n4, or_self, if_false]
    exact hx
section
variable {A B C : Heap} {gr gd fr size tail head : Nat} {L M : List (List Nat)} {D : Dsk} {v : AV}
theorem RgAt.wide (h : RgAt A gr gd fr size tail head L D B) : ∃ A', A.Sub A' ∧ RgAt A' gr gd fr size tail head L D B ∧ ∀ v M, LsV B v M → LsV A' v M := by
  obtain ⟨A', h1, h2, h3⟩ := h.dk.wide
  refine ⟨A', h1, ⟨h1 _ _ h.ar, h.hd, h2, h.rest, h.on⟩, fun v M hv => ?_⟩
  rcases hv with hv | ⟨g, i, n, R, e1, e2, e3, e4⟩
  · exact .inl hv
  · obtain ⟨gl, _, gm, hdk⟩ := h.dk
    refine .inr ⟨g, i, n, R, e1, h3 _ _ e2 (fun e => ?_) (fun l e => by cases e) (fun l e => by cases e) (fun m e => by cases e), e3, e4⟩
    have := hdk.at'
    rw [← e, e2] at this
    cases this
theorem LsV.set (h : LsV A v M) {x : Nat} {c0 c : Cont} (hx : A x = some c0) (hc : ∀ l, c0 ≠ .row T_L_uint8 1 l) : LsV (A.set x c) v M := h.imp id fun ⟨g, i, n, R, h1, h2, h3⟩ => ⟨g, i, n, R, h1, by rw [set_ne' (fun e => by rw [e, hx] at h2; injection h2 with h2; exact hc _ h2)]; exact h2, h3⟩
end
theorem apC_num {size tail : Nat} {L : List (List Nat)} {b : List Nat} (h : tail + L.length ≤ 1099511627776) : apC size tail L b = if size ≤ L.length then 6 else if 224 < b.length then 15 else 0 := by
  unfold apC putRC
  split
  · rfl
  · rw [if_neg (by omega)]
def refC (n t : Nat) (v : AV) : Cont := .var 42 [.int .i64 n, .int .i64 t, v]
structure RoI (gd gr gm n : Nat) (l : List RgO) (i : Nat) (env : AEnv) (B : Heap) : Prop where
  le : i ≤ l.length
  e1 : env 1 = .dsl 6 (l.map roA)
  e5 : env 5 = .int .i64 n
  e6 : env 6 = .ptr gd 0
  e8 : env 8 = .ptr gr 0
  e10 : env 10 = .ptr gm 0
  e11 : env 11 = .int .i64 i
  md : ∃ A D t h L v, RgAt A gr gd 2 n t h L D B ∧ A gm = some (refC n t v) ∧ LsV A v L ∧ D.fuse < 0 ∧ D.steps ≤ 100 * i ∧ h ≤ i
theorem w_RingDoes (c : Nat) (hc : c < 256) (l : List RgO) (hl : l.length < 2 ^ 63) (hlb : ∀ o ∈ l, Bytes o.b ∧ o.to < 256) : Gives Try.prog F_law36_RingDoes [.int .u8 c, .dsl 6 (l.map roA)] (.bool true) := by
  refine v_law36_RingDoes (by simp) ?_
  unfold a_law36_RingDoes
  obtain ⟨r3, hr3⟩ : ∃ r, r = q_law36_RingDoes_3 := ⟨_, rfl⟩; rw [← hr3]
  obtain ⟨r4, hr4⟩ : ∃ r, r = q_law36_RingDoes_4 := ⟨_, rfl⟩; rw [← hr4]
  obtain ⟨r5, hr5⟩ : ∃ r, r = q_law36_RingDoes_5 := ⟨_, rfl⟩; rw [← hr5]
  obtain ⟨r7, hr7⟩ : ∃ r, r = q_law36_RingDoes_7 := ⟨_, rfl⟩; rw [← hr7]
  obtain ⟨r8, hr8⟩ : ∃ r, r = q_law36_RingDoes_8 := ⟨_, rfl⟩; rw [← hr8]
  obtain ⟨r10, hr10⟩ : ∃ r, r = q_law36_RingDoes_10 := ⟨_, rfl⟩; rw [← hr10]
  obtain ⟨r11, hr11⟩ : ∃ r, r = q_law36_RingDoes_11 := ⟨_, rfl⟩; rw [← hr11]
  obtain ⟨r30, hr30⟩ : ∃ r, r = q_law36_RingDoes_30 := ⟨_, rfl⟩; rw [← hr30]
  simp -implicitDefEqProofs [q_law36_RingDoes_0, q_law36_RingDoes_1]
  refine (w_law36_light l hl).call (.cons (.refl _) rfl .nil) rfl ?_
  cases hlight : lightR l with
  | false =>
    simp -implicitDefEqProofs [q_law36_RingDoes_2]
    refine w_law36_works.call .nil rfl ?_
    simp -implicitDefEqProofs [outOf]
  | true =>
  have hl60 : l.length ≤ 60 := by
    unfold lightR at hlight
    simp only [Bool.and_eq_true, decide_eq_true_eq] at hlight
    exact hlight.1
  have hl300 : ∀ o ∈ l, o.b.length ≤ 300 := by
    unfold lightR at hlight
    simp only [Bool.and_eq_true, List.all_eq_true, decide_eq_true_eq] at hlight
    exact hlight.2
  obtain ⟨n, hn⟩ : ∃ n, n = 2 + c % 8 := ⟨_, rfl⟩
  have hn2 : 2 ≤ n ∧ n ≤ 9 := by omega
  have u1 : IntKind.i64.wrap (c : Int) = (c : Int) := wrap_i64 (by omega)
  have u2 : (c : Int).tmod 8 = ((c % 8 : Nat) : Int) := (Int.ofNat_tmod c 8).symm
  obtain ⟨q, hq⟩ : ∃ q, q = c % 8 := ⟨_, rfl⟩
  rw [← hq] at u2 hn
  have u3 : IntKind.i64.wrap (q : Int) = (q : Int) := wrap_i64 (by omega)
  have u4 : IntKind.i64.wrap (2 + (q : Int)) = (n : Int) := by rw [wrap_i64 (by omega)]; omega
  have u5 : IntKind.i64.wrap ((n : Int) + 3) = ((n + 3 : Nat) : Int) := by rw [wrap_i64 (by omega)]; omega
  obtain ⟨N, hN⟩ : ∃ N : Nat, N = n + 3 := ⟨_, rfl⟩
  rw [← hN] at u5
  simp -implicitDefEqProofs [hr3, q_law36_RingDoes_3, u1, u2, u3, u4]
  simp -implicitDefEqProofs [hr4, q_law36_RingDoes_4, u5]
  refine w_disk_New (fun h => by omega) fun _ gd B1 d1 => ?_
  rw [Int.toNat_natCast] at d1
  have hres0 : Rest (Dsk.fresh N) := ⟨rfl, rfl⟩
  have on0 : RgL (Dsk.fresh N).last 2 n 0 [] := RgL.fresh (by omega) (by omega) (by omega)
  have hfu0 : (Dsk.fresh N).fuse = -1 := rfl
  have hst0 : (Dsk.fresh N).steps = 0 := rfl
  have hln0 : (Dsk.fresh N).last.length = N := by simp [Dsk.fresh]
  obtain ⟨D0, hD0⟩ : ∃ D, D = Dsk.fresh N := ⟨_, rfl⟩
  rw [← hD0] at d1 hres0 on0 hfu0 hst0 hln0
  simp -implicitDefEqProofs
  simp -implicitDefEqProofs [hr5, q_law36_RingDoes_5]
  simp -implicitDefEqProofs [hr7, q_law36_RingDoes_7]
  refine w_ring_New (fr := 2) (size := n) d1 (by omega) (by omega) (by decide) (fun h => by omega) fun _ gr hgr => ?_
  have q1 := RgAt.made d1 hres0 on0 hgr
  have h0gr : (H0.set gr (rgC gd 2 n 0 0)) gr = some (rgC gd 2 n 0 0) := set_eq'
  obtain ⟨B2, hB2⟩ : ∃ B2, B2 = B1.set gr (rgC gd 2 n 0 0) := ⟨_, rfl⟩
  rw [← hB2] at q1 ⊢
  clear hB2
  simp -implicitDefEqProofs
  simp -implicitDefEqProofs [hr8, q_law36_RingDoes_8]
  simp -implicitDefEqProofs [hr10, q_law36_RingDoes_10, shp, good, comps]
  intro gm hgm
  have q2 : RgAt ((H0.set gr (rgC gd 2 n 0 0)).set gm (refC n 0 .nilS)) gr gd 2 n 0 0 [] D0 (B2.set gm (refC n 0 .nilS)) :=
    ⟨by rw [set_ne' (fun e => by rw [← e, q1.br] at hgm; cases hgm)]; exact h0gr, rfl, q1.dk.rebase hgm, q1.rest, q1.on⟩
  simp -implicitDefEqProofs [hr11, q_law36_RingDoes_11]
  refine X_lp (RoI gd gr gm n l) (fun i => l.length - i) 0 ⟨by omega, by simp, by simp, by simp, by simp, by simp, by simp, ⟨_, D0, 0, 0, [], .nilS, by unfold refC at q2; exact q2, by unfold refC; exact set_eq', LsV.nil _, by omega, by omega, by omega⟩⟩ ?_
  clear q1 q2 d1 hgr hgm h0gr
  rintro i env B ⟨hil, e1, e5, e6, e8, e10, e11, ⟨A, D, t, h, L, v, hrg, hAm, hv, hfu, hst, hhi⟩⟩
  have hbd := hrg.bnd
  have hhd := hrg.hd
  have hll := hrg.on.len
  have ngm : gm ≠ gr := fun e => by
    rw [e, hrg.ar] at hAm
    unfold rgC refC at hAm
    injection hAm with hAm
    injection hAm with h1 _
    cases h1
  have hMb : ∀ {M : List (List Nat)} {A' : Heap} {gr' t' h' : Nat} {D' : Dsk} {B' : Heap}, RgAt A' gr' gd 2 n t' h' M D' B' → ∀ b ∈ M, Bytes b := fun hr b hb => (hr.on.rcs b hb).2
  rw [q_law36_RingDoes_L30]
  obtain ⟨r14, hr14⟩ : ∃ r, r = q_law36_RingDoes_14 := ⟨_, rfl⟩; rw [← hr14]
  obtain ⟨r15, hr15⟩ : ∃ r, r = q_law36_RingDoes_15 := ⟨_, rfl⟩; rw [← hr15]
  obtain ⟨r16, hr16⟩ : ∃ r, r = q_law36_RingDoes_16 := ⟨_, rfl⟩; rw [← hr16]
  obtain ⟨r17, hr17⟩ : ∃ r, r = q_law36_RingDoes_17 := ⟨_, rfl⟩; rw [← hr17]
  obtain ⟨r19, hr19⟩ : ∃ r, r = q_law36_RingDoes_19 := ⟨_, rfl⟩; rw [← hr19]
  obtain ⟨r20, hr20⟩ : ∃ r, r = q_law36_RingDoes_20 := ⟨_, rfl⟩; rw [← hr20]
  obtain ⟨r21, hr21⟩ : ∃ r, r = q_law36_RingDoes_21 := ⟨_, rfl⟩; rw [← hr21]
  obtain ⟨r22, hr22⟩ : ∃ r, r = q_law36_RingDoes_22 := ⟨_, rfl⟩; rw [← hr22]
  obtain ⟨r24, hr24⟩ : ∃ r, r = q_law36_RingDoes_24 := ⟨_, rfl⟩; rw [← hr24]
  obtain ⟨r26, hr26⟩ : ∃ r, r = q_law36_RingDoes_26 := ⟨_, rfl⟩; rw [← hr26]
  obtain ⟨r27, hr27⟩ : ∃ r, r = q_law36_RingDoes_27 := ⟨_, rfl⟩; rw [← hr27]
  obtain ⟨r29, hr29⟩ : ∃ r, r = q_law36_RingDoes_29 := ⟨_, rfl⟩; rw [← hr29]
  simp -implicitDefEqProofs [q_law36_RingDoes_12, e1, e11]
  refine ⟨fun hlt => ?_, fun hge => ?_⟩
  · have hii : (i : Int) < l.length := by omega
    have wi : IntKind.i64.wrap ((i : Int) + 1) = ((i + 1 : Nat) : Int) := by rw [wrap_i64 (by omega)]; simp
    have hoi := hlb _ (List.getElem_mem hlt)
    have ho3 := hl300 _ (List.getElem_mem hlt)
    obtain ⟨o, ho⟩ : ∃ o, o = l[i] := ⟨_, rfl⟩
    have hE : roA l[i] = .agg [.int .i64 o.kind, .isl .u8 (ints o.b), .int .u8 o.to, .bool o.power, .int .u8 o.fuse, .bool o.keep] := by rw [ho]; rfl
    rw [← ho] at hoi ho3
    -- behind an act
    have tail : ∀ (env' : AEnv) (C A' : Heap) (D' : Dsk) (t' h' : Nat) (L' : List (List Nat)) (v' : AV), env' 1 = .dsl 6 (l.map roA) → env' 5 = .int .i64 n → env' 6 = .ptr gd 0 → env' 8 = .ptr gr 0 → env' 10 = .ptr gm 0 → env' 11 = .int .i64 i →
        RgAt A' gr gd 2 n t' h' L' D' C → A' gm = some (refC n t' v') → LsV A' v' L' → D'.fuse < 0 → D'.steps ≤ D.steps + 60 → h' ≤ i + 1 →
        AVL.X Try.prog (lp Try.prog (fin [ARes.tmp 4] (AV.bool true)) (Kt.blk 0 (Kt.thn (.seq (.region r30) .ret) Kt.done)) (RoI gd gr gm n l) (fun i => l.length - i) i)
          (.seq (.seq (.region r24) (.cond (.t 140) (.seq (.region q_law36_RingDoes_25) .ret) .skip)) (.seq (.region r26) (.seq (.region r27) (.cond (.t 160) (.seq (.region q_law36_RingDoes_28) .ret) .skip)))) (Kt.blk 1 (Kt.thn (.region r29) Kt.done)) env' C := by
      intro env' C A' D' t' h' L' v' f1 f5 f6 f8 f10 f11 hrg' hAm' hv' hfu' hst' hh'
      have hsv := hv'.scb
      have hbd' := hrg'.bnd
      have hhd' := hrg'.hd
      have cm := hrg'.dk.sub _ _ hAm'
      have cm' := cm
      unfold refC at cm'
      have hyes : decide (t' = t' ∧ L' = L') = true := decide_eq_true ⟨rfl, rfl⟩
      simp -implicitDefEqProofs [hr24, q_law36_RingDoes_24, f8, f10, cm', hsv.shp, hsv.good, hsv.comps, hsv.agg, hsv.size]
      refine w_law36_same (sz := n) hrg' (hv'.mono hrg'.dk.sub) (by omega) (hMb hrg') fun E kE => ?_
      rw [hyes]
      have hrgE := hrg'.mono kE
      simp -implicitDefEqProofs
      simp -implicitDefEqProofs [hr26, q_law36_RingDoes_26, f5, f6, f8]
      refine w_ring_Next hrgE.br ?_
      simp -implicitDefEqProofs
      refine w_ring_Open (fr := 2) (size := n) (tail := t') (L := L') (next := h') hrgE.dk hrgE.rest hrgE.on hfu' (by omega) (fun hL => by rw [hL] at hhd'; simpa using hhd') (by omega) fun go D2 E2 hgo hro hfo hso => ?_
      have hAs : A'.Sub (A'.set go (rgC gd 2 n t' (t' + L'.length))) := sub_none hgo
      have hrr := hro.other (hAs _ _ (by rw [← hhd']; exact hrg'.ar))
      rw [← hhd'] at hrr hro
      have hv2 := hv'.mono hAs
      have em := hrr.dk.sub _ _ (by rw [hhd']; exact hAs _ _ hAm')
      have em' := em
      unfold refC at em'
      simp -implicitDefEqProofs
      simp -implicitDefEqProofs [hr27, q_law36_RingDoes_27, f10, em', hsv.shp, hsv.good, hsv.comps, hsv.agg, hsv.size]
      rw [← hhd'] at hv2
      refine w_law36_same (sz := n) hro (hv2.mono hro.dk.sub) (by omega) (hMb hro) fun F kF => ?_
      rw [hyes]
      simp -implicitDefEqProofs
      simp -implicitDefEqProofs [hr29, q_law36_RingDoes_29, f11, wi, -Int.natCast_add]
      exact lp_next (i + 1) ⟨by omega, by simp [f1], by simp [f5], by simp [f6], by simp [f8], by simp [f10], by simp, ⟨_, D2, t', h', L', v', hrr.mono kF, by rw [hhd']; exact hAs _ _ hAm', hv2, by rw [hfo]; exact hfu', by omega, by omega⟩⟩ (by omega)
    -- the chapter's ring is stored
    have stored : ∀ {A' C : Heap} {D' : Dsk} {t0 t' h' : Nat} {L' : List (List Nat)} {v0 v' : AV}, RgAt A' gr gd 2 n t' h' L' D' C → A' gm = some (refC n t0 v0) → LsV A' v' L' → ∃ A2, RgAt A2 gr gd 2 n t' h' L' D' (C.set gm (refC n t' v')) ∧ A2 gm = some (refC n t' v') ∧ LsV A2 v' L' := fun {A' C D' t0 t' h' L' v0 v'} hr hm hv => by
      refine ⟨A'.set gm (refC n t' v'), ⟨by rw [set_ne' (Ne.symm ngm)]; exact hr.ar, hr.hd, hr.dk.poke hm, hr.rest, hr.on⟩, set_eq', hv.set hm (fun l e => by unfold refC at e; cases e)⟩
    have bm := hrg.dk.sub _ _ hAm
    have bm' := bm
    unfold refC at bm'
    have hsv := hv.scb
    by_cases hk2 : o.kind = 2
    · have wto : IntKind.i64.wrap (o.to : Int) = (o.to : Int) := wrap_i64 (by omega)
      have m12 : (o.to : Int).tmod 12 = ((o.to % 12 : Nat) : Int) := (Int.ofNat_tmod o.to 12).symm
      obtain ⟨q12, hq12⟩ : ∃ q, q = o.to % 12 := ⟨_, rfl⟩
      rw [← hq12] at m12
      have wq : IntKind.i64.wrap (q12 : Int) = (q12 : Int) := wrap_i64 (by omega)
      have wtq : IntKind.i64.wrap ((t : Int) + (q12 : Int)) = ((t + q12 : Nat) : Int) := by rw [wrap_i64 (by omega)]; omega
      obtain ⟨to, hto⟩ : ∃ to, to = t + q12 := ⟨_, rfl⟩
      rw [← hto] at wtq
      simp -implicitDefEqProofs [q_law36_RingDoes_13, e1, e11, hlt, hii]
      rw [hE]
      simp -implicitDefEqProofs [hk2, shp, good, comps]
      simp -implicitDefEqProofs [hr14, q_law36_RingDoes_14, e1, e8, e10, e11, bm', hlt, hii, hsv.size]
      rw [hE]
      simp -implicitDefEqProofs [wto, m12, wq, wtq, shp, good, comps]
      refine w_ring_Drop hrg (by omega) (to : Nat) (fun j D1 B1' hj hrg1 hs1 hf1 => ?_) fun hf => absurd hfu hf
      have hA1m : (A.set gr (rgC gd 2 n (t + j) h)) gm = some (refC n t v) := by rw [set_ne' ngm]; exact hAm
      have hv1 : LsV (A.set gr (rgC gd 2 n (t + j) h)) v L := hv.set hrg.ar (fun l e => by unfold rgC at e; cases e)
      have b1m := hrg1.dk.sub _ _ hA1m
      unfold refC at b1m
      simp -implicitDefEqProofs
      simp -implicitDefEqProofs [hr15, q_law36_RingDoes_15, e1, e10, e11, b1m, hlt, hii, hsv.shp, hsv.good, hsv.comps, hsv.agg, hsv.size]
      rw [hE]
      simp -implicitDefEqProofs [wto, m12, wq, wtq, shp, good, comps]
      refine w_ref36_Drop (size := n) (hv1.mono hrg1.dk.sub) (by omega) (to : Nat) fun j2 v2 C2 hj2 k2 hv2 => ?_
      have hjj : j2 = j := by rw [hhd] at hj; omega
      subst hjj
      have hsv2 := hv2.scb
      have hrg2 := hrg1.mono k2
      obtain ⟨T, hT⟩ : ∃ T, T = t + j2 := ⟨_, rfl⟩
      unfold rfV
      rw [← hT]
      simp -implicitDefEqProofs [hsv2.shp, hsv2.good, hsv2.comps, hsv2.agg, hsv2.st, hsv2.size]
      intro g14 hg14
      have n14 : ¬ gm = g14 := fun e => by
        have := hrg2.dk.sub _ _ hA1m
        rw [e, hg14] at this; cases this
      obtain ⟨A3, hA13, hrg3, hw3⟩ := hrg2.wide
      have hv3 := hw3 _ _ hv2
      have hrg4 := hrg3.mono (sub_none hg14 (c := refC n (t + j2) v2))
      have hA3m := hA13 _ _ hA1m
      have c4m := hrg4.dk.sub _ _ hA3m
      unfold refC at c4m
      rw [← hT] at hrg4 c4m
      obtain ⟨C4, hC4⟩ : ∃ C4, C4 = C2.set g14 (refC n T v2) := ⟨_, rfl⟩
      rw [← hC4] at hrg4
      have hC4' : C2.set g14 (.var 42 [.int .i64 n, .int .i64 T, v2]) = C4 := hC4.symm
      rw [hC4'] at c4m
      have c14 : C4 g14 = some (.var 42 [.int .i64 n, .int .i64 T, v2]) := by rw [hC4, set_eq']; rfl
      obtain ⟨A5, hrg5, hA5m, hv5⟩ := stored hrg4 hA3m hv3
      simp only [hC4']
      unfold refC at hrg5
      simp -implicitDefEqProofs [hr16, q_law36_RingDoes_16, e10, c14, c4m, hsv.size, hsv2.shp, hsv2.good, hsv2.comps, hsv2.agg, hsv2.st, hsv2.size]
      simp -implicitDefEqProofs [hr17, q_law36_RingDoes_17]
      have hj9 : j2 ≤ 9 := by
        unfold endT at hj
        omega
      exact tail _ _ A5 D1 T h (L.drop j2) v2 (by simp [e1]) (by simp [e5]) (by simp [e6]) (by simp [e8]) (by simp [e10]) (by simp [e11]) hrg5 hA5m hv5 (by rw [hf1 hfu]; exact hfu) (by omega) (by omega)
    · simp -implicitDefEqProofs [q_law36_RingDoes_13, e1, e11, hlt, hii]
      rw [hE]
      simp -implicitDefEqProofs [hk2, shp, good, comps]
      simp -implicitDefEqProofs [hr19, q_law36_RingDoes_19, e1, e8, e11, hlt, hii]
      rw [hE]
      simp -implicitDefEqProofs [shp, good, comps]
      -- what both return
      have fin2 : ∀ (env' : AEnv) (C A' : Heap) (D' : Dsk) (h' : Nat) (L' : List (List Nat)) (N cc : Int), env' 1 = .dsl 6 (l.map roA) → env' 5 = .int .i64 n → env' 6 = .ptr gd 0 → env' 8 = .ptr gr 0 → env' 10 = .ptr gm 0 → env' 11 = .int .i64 i → env' 16 = .int .i64 N → env' 17 = .int .i64 cc →
          RgAt A' gr gd 2 n t h' L' D' C → A' gm = some (refC n t v) → LsV A' v L → D'.fuse < 0 → D'.steps ≤ D.steps + 60 → h' ≤ i + 1 → cc = apC n t L o.b → (cc = 0 → L' = L ++ [o.b] ∧ N = ((t + L.length : Nat) : Int)) → (cc ≠ 0 → L' = L ∧ N = 0) →
          AVL.X Try.prog (lp Try.prog (fin [ARes.tmp 4] (AV.bool true)) (Kt.blk 0 (Kt.thn (.seq (.region r30) .ret) Kt.done)) (RoI gd gr gm n l) (fun i => l.length - i) i)
            (.seq (.regionD r20) (.seq (.region r21) (.seq (.region r22) (.cond (.t 136) (.seq (.region q_law36_RingDoes_23) .ret) .skip)))) (Kt.thn (.seq (.seq (.region r24) (.cond (.t 140) (.seq (.region q_law36_RingDoes_25) .ret) .skip)) (.seq (.region r26) (.seq (.region r27) (.cond (.t 160) (.seq (.region q_law36_RingDoes_28) .ret) .skip)))) (Kt.blk 1 (Kt.thn (.region r29) Kt.done))) env' C := by
        intro env' C A' D' h' L' N cc f1 f5 f6 f8 f10 f11 f16 f17 hrg' hA'm hv' hfu' hst' hh' hcc hy hno
        have cm := hrg'.dk.sub _ _ hA'm
        have cm' := cm
        unfold refC at cm'
        simp -implicitDefEqProofs [hr20, q_law36_RingDoes_20, f1, f10, f11, cm', hlt, hii, hsv.shp, hsv.good, hsv.comps, hsv.agg, hsv.size]
        rw [hE]
        simp -implicitDefEqProofs [shp, good, comps]
        have hbdL : L.length ≤ n := hll
        refine w_ref36_Append (size := n) (hv'.mono hrg'.dk.sub) hoi.1 (by omega) (by omega) hll (by omega) (fun hc0 C2 k2 => ?_) (fun hc0 v2 C2 k2 hv2 => ?_)
        · rw [← hcc] at hc0
          obtain ⟨hLe, hNe⟩ := hno hc0
          have hv2 : LsV C2 v L' := by rw [hLe]; exact (hv'.mono hrg'.dk.sub).mono k2
          obtain ⟨v2, hv2e⟩ : ∃ v2, v2 = v := ⟨_, rfl⟩
          rw [← hv2e] at hv2
          rw [← hcc]
          rw [show rfV n t v = rfV n t v2 by rw [hv2e]]
          have hsv2 := hv2.scb
          unfold rfV
          simp -implicitDefEqProofs [hsv2.shp, hsv2.good, hsv2.comps, hsv2.agg, hsv2.st, hsv2.size]
          intro g18 hg18
          obtain ⟨A3, hA13, hrg3, hw3⟩ := (hrg'.mono k2).wide
          have hv3 := hw3 _ _ hv2
          have hrg4 := hrg3.mono (sub_none hg18 (c := refC n t v2))
          have hA3m := hA13 _ _ hA'm
          have c4m := hrg4.dk.sub _ _ hA3m
          unfold refC at c4m
          obtain ⟨C4, hC4⟩ : ∃ C4, C4 = C2.set g18 (refC n t v2) := ⟨_, rfl⟩
          rw [← hC4] at hrg4
          have hC4' : C2.set g18 (.var 42 [.int .i64 n, .int .i64 t, v2]) = C4 := hC4.symm
          rw [hC4'] at c4m
          have c18 : C4 g18 = some (.var 42 [.int .i64 n, .int .i64 t, v2]) := by rw [hC4, set_eq']; rfl
          obtain ⟨A5, hrg5, hA5m, hv5⟩ := stored hrg4 hA3m hv3
          simp only [hC4']
          unfold refC at hrg5
          simp -implicitDefEqProofs [hr21, q_law36_RingDoes_21, f10, c18, c4m, hsv.size, hsv2.shp, hsv2.good, hsv2.comps, hsv2.agg, hsv2.st, hsv2.size]
          simp -implicitDefEqProofs [hr22, q_law36_RingDoes_22, f16, f17, hNe]
          exact tail _ _ A5 D' t h' L' v2 (by simp [f1]) (by simp [f5]) (by simp [f6]) (by simp [f8]) (by simp [f10]) (by simp [f11]) hrg5 hA5m hv5 hfu' hst' hh'
        · rw [← hcc] at hc0
          obtain ⟨hLe, hNe⟩ := hy hc0
          rw [← hLe] at hv2
          obtain ⟨N2, hN2⟩ : ∃ N2 : Int, N2 = ((t + L.length : Nat) : Int) := ⟨_, rfl⟩
          rw [← hN2] at hNe ⊢
          have hsv2 := hv2.scb
          unfold rfV
          simp -implicitDefEqProofs [hsv2.shp, hsv2.good, hsv2.comps, hsv2.agg, hsv2.st, hsv2.size]
          intro g18 hg18
          obtain ⟨A3, hA13, hrg3, hw3⟩ := (hrg'.mono k2).wide
          have hv3 := hw3 _ _ hv2
          have hrg4 := hrg3.mono (sub_none hg18 (c := refC n t v2))
          have hA3m := hA13 _ _ hA'm
          have c4m := hrg4.dk.sub _ _ hA3m
          unfold refC at c4m
          obtain ⟨C4, hC4⟩ : ∃ C4, C4 = C2.set g18 (refC n t v2) := ⟨_, rfl⟩
          rw [← hC4] at hrg4
          have hC4' : C2.set g18 (.var 42 [.int .i64 n, .int .i64 t, v2]) = C4 := hC4.symm
          rw [hC4'] at c4m
          have c18 : C4 g18 = some (.var 42 [.int .i64 n, .int .i64 t, v2]) := by rw [hC4, set_eq']; rfl
          obtain ⟨A5, hrg5, hA5m, hv5⟩ := stored hrg4 hA3m hv3
          simp only [hC4']
          unfold refC at hrg5
          simp -implicitDefEqProofs [hr21, q_law36_RingDoes_21, f10, c18, c4m, hsv.size, hsv2.shp, hsv2.good, hsv2.comps, hsv2.agg, hsv2.st, hsv2.size]
          simp -implicitDefEqProofs [hr22, q_law36_RingDoes_22, f16, f17, hNe, hc0]
          exact tail _ _ A5 D' t h' L' v2 (by simp [f1]) (by simp [f5]) (by simp [f6]) (by simp [f8]) (by simp [f10]) (by simp [f11]) hrg5 hA5m hv5 hfu' hst' hh'
      refine w_ring_Append (b := o.b) hrg (by omega) (by omega) (BsV.isl o.b) hoi.1 (by omega) (fun hf => ?_) (fun hnf hb1 C kC => ?_) (fun hnf hb1 hp C hrg1 => ?_) fun _ _ hne => absurd (Dsk.put_free hrg.rest hfu _ _).1 hne
      · simp -implicitDefEqProofs
        exact fin2 _ B A D h L 0 6 (by simp [e1]) (by simp [e5]) (by simp [e6]) (by simp [e8]) (by simp [e10]) (by simp [e11]) (by simp) (by simp) hrg hAm hv hfu (by omega) (by omega) (by rw [apC_num (by omega), if_pos hf]) (fun h => by cases h) (fun _ => ⟨rfl, rfl⟩)
      · simp -implicitDefEqProofs
        exact fin2 _ C A D h L 0 15 (by simp [e1]) (by simp [e5]) (by simp [e6]) (by simp [e8]) (by simp [e10]) (by simp [e11]) (by simp) (by simp) (hrg.mono kC) hAm hv hfu (by omega) (by omega) (by rw [apC_num (by omega), if_neg (by omega), if_pos hb1]) (fun h => by cases h) (fun _ => ⟨rfl, rfl⟩)
      · have hf2 := (Dsk.put_free hrg.rest hfu (2 + h % n) (recS h o.b)).2
        have hs2 := D.put_steps (2 + h % n) (recS h o.b)
        simp -implicitDefEqProofs
        exact fin2 _ C _ _ (h + 1) (L ++ [o.b]) h 0 (by simp [e1]) (by simp [e5]) (by simp [e6]) (by simp [e8]) (by simp [e10]) (by simp [e11]) (by simp) (by simp) hrg1 (by rw [set_ne' ngm]; exact hAm) (hv.set hrg.ar (fun l e => by unfold rgC at e; cases e)) (by rw [hf2]; exact hfu) (by omega) (by omega) (by rw [apC_num (by omega), if_neg (by omega), if_neg (by omega)]) (fun _ => ⟨rfl, by rw [hhd]⟩) (fun h => absurd rfl h)
  · simp -implicitDefEqProofs [hr30, q_law36_RingDoes_30]
    refine w_law36_works.call .nil rfl ?_
    simp -implicitDefEqProofs [outOf]
end Go.Proofs.Ytkmlndihdcplfaa

/- RingCrashes. -/
namespace Go.Proofs.Ytkmlndihdcplfaa
open Go AVL
attribute [-simp] AV.isAgg aappI aapp alen shp good comps szOK aslc List.reduceReplicate
set_option linter.unusedVariables false
set_option linter.unusedSimpArgs false
set_option maxRecDepth 8000
set_option maxHeartbeats 4000000

theorem Rest.setFuse {D : Dsk} (h : Rest D) (n : Int) : Rest (D.setFuse n) := ⟨h.wait, h.down⟩
/-- What is told behind a crash: the whole, or some dropped. -/
structure CrL (n t : Nat) (L : List (List Nat)) (tw : Nat) (LW : List (List Nat)) (W : List (List Nat)) (tr : Nat) (Lr : List (List Nat)) : Prop where
  on : RgL W 0 n tr Lr
  nil : Lr = [] → tr = t + L.length
  num : tr + Lr.length ≤ t + L.length + 1
  how : (tr = tw ∧ Lr = LW) ∨ ∃ j, tr = t + j ∧ Lr = L.drop j ∧ j ≤ L.length ∧ t + j ≤ tw
/-- Behind an act: the disk is at rest, and all is done; or it is down. -/
def AfC (gd gr n t : Nat) (L : List (List Nat)) (tw : Nat) (LW : List (List Nat)) (A : Heap) (D : Dsk) : Prop :=
  (Rest D ∧ A gr = some (rgC gd 0 n tw (tw + LW.length)) ∧ RgL D.last 0 n tw LW) ∨ (D.down = true ∧ D.wait.length ≤ 1 ∧ ∀ k : Bool, ∃ tr Lr, CrL n t L tw LW (D.crash [k]).last tr Lr)
theorem AfC.set {gd gr n t : Nat} {L : List (List Nat)} {tw : Nat} {LW : List (List Nat)} {A A' : Heap} {D : Dsk} (h : AfC gd gr n t L tw LW A D) (hg : ∀ c, A gr = some c → A' gr = some c) : AfC gd gr n t L tw LW A' D := h.imp (fun ⟨h1, h2, h3⟩ => ⟨h1, hg _ h2, h3⟩) id
theorem DskAt.wideL {A B : Heap} {g : Nat} {D : Dsk} (h : DskAt A g D B) : ∃ A', A.Sub A' ∧ DskAt A' g D B ∧ ∀ v M, LsV B v M → LsV A' v M := by
  obtain ⟨A', h1, h2, h3⟩ := h.wide
  refine ⟨A', h1, h2, fun v M hv => ?_⟩
  rcases hv with hv | ⟨x, i, n, R, e1, e2, e3, e4⟩
  · exact .inl hv
  · obtain ⟨gl, _, gm, hdk⟩ := h
    refine .inr ⟨x, i, n, R, e1, h3 _ _ e2 (fun e => ?_) (fun l e => by cases e) (fun l e => by cases e) (fun m e => by cases e), e3, e4⟩
    have := hdk.at'
    rw [← e, e2] at this
    cases this
structure RcE (gd gm n : Nat) (l : List RgO) (i gr gw : Nat) (env : AEnv) : Prop where
  e1 : env 1 = .dsl 6 (l.map roA)
  e5 : env 5 = .int .i64 n
  e6 : env 6 = .ptr gd 0
  e8 : env 8 = .ptr gr 0
  e10 : env 10 = .ptr gm 0
  e11 : env 11 = .int .i64 i
  e13 : env 13 = .ptr gw 0
/-- The rounds that look for what is left. -/
structure RcK (gd gm n : Nat) (l : List RgO) (i : Nat) (go gw gk t tw tr hr : Nat) (L LW Lr : List (List Nat)) (v : AV) (J : Nat) (D : Dsk) (p : Bool × Nat) (env : AEnv) (B : Heap) : Prop where
  E : RcE gd gm n l i go gw env
  e16 : env 16 = .bool p.1
  e17 : env 17 = .ptr gk 0
  md : ∃ A vk w, RgAt A go gd 0 n tr hr Lr D B ∧ A gm = some (refC n t v) ∧ gk ≠ gw ∧ gk ≠ gm ∧ gw ≠ gm ∧ (if p.1 then A gw = some (refC n tr w) ∧ LsV B w Lr else (tr = t + J ∧ Lr = L.drop J ∧ J ≤ L.length ∧ t + J ≤ tw) ∧ p.2 ≤ J ∧ A gk = some (refC n (t + p.2) vk) ∧ LsV B vk (L.drop p.2) ∧ A gw = some (refC n tw w) ∧ LsV B w LW)
structure RcI (gd gm n : Nat) (l : List RgO) (i : Nat) (env : AEnv) (B : Heap) : Prop where
  le : i ≤ l.length
  e1 : env 1 = .dsl 6 (l.map roA)
  e5 : env 5 = .int .i64 n
  e6 : env 6 = .ptr gd 0
  e10 : env 10 = .ptr gm 0
  e11 : env 11 = .int .i64 i
  md : ∃ gr A D t h L v, env 8 = .ptr gr 0 ∧ RgAt A gr gd 0 n t h L D B ∧ A gm = some (refC n t v) ∧ LsV A v L ∧ D.fuse < 0 ∧ D.steps ≤ 100 * i ∧ h ≤ i
theorem w_RingCrashes (c : Nat) (hc : c < 256) (l : List RgO) (hl : l.length < 2 ^ 63) (hlb : ∀ o ∈ l, Bytes o.b ∧ o.to < 256 ∧ o.fuse < 256) : Gives Try.prog F_law36_RingCrashes [.int .u8 c, .dsl 6 (l.map roA)] (.bool true) := by
  refine v_law36_RingCrashes (by simp) ?_
  unfold a_law36_RingCrashes
  obtain ⟨r3, hr3⟩ : ∃ r, r = q_law36_RingCrashes_3 := ⟨_, rfl⟩; rw [← hr3]
  obtain ⟨r4, hr4⟩ : ∃ r, r = q_law36_RingCrashes_4 := ⟨_, rfl⟩; rw [← hr4]
  obtain ⟨r5, hr5⟩ : ∃ r, r = q_law36_RingCrashes_5 := ⟨_, rfl⟩; rw [← hr5]
  obtain ⟨r7, hr7⟩ : ∃ r, r = q_law36_RingCrashes_7 := ⟨_, rfl⟩; rw [← hr7]
  obtain ⟨r8, hr8⟩ : ∃ r, r = q_law36_RingCrashes_8 := ⟨_, rfl⟩; rw [← hr8]
  obtain ⟨r10, hr10⟩ : ∃ r, r = q_law36_RingCrashes_10 := ⟨_, rfl⟩; rw [← hr10]
  obtain ⟨r11, hr11⟩ : ∃ r, r = q_law36_RingCrashes_11 := ⟨_, rfl⟩; rw [← hr11]
  obtain ⟨r42, hr42⟩ : ∃ r, r = q_law36_RingCrashes_42 := ⟨_, rfl⟩; rw [← hr42]
  simp -implicitDefEqProofs [q_law36_RingCrashes_0, q_law36_RingCrashes_1]
  refine (w_law36_light l hl).call (.cons (.refl _) rfl .nil) rfl ?_
  cases hlight : lightR l with
  | false =>
    simp -implicitDefEqProofs [q_law36_RingCrashes_2]
    refine w_law36_works.call .nil rfl ?_
    simp -implicitDefEqProofs [outOf]
  | true =>
  have hl60 : l.length ≤ 60 := by
    unfold lightR at hlight
    simp only [Bool.and_eq_true, decide_eq_true_eq] at hlight
    exact hlight.1
  have hl300 : ∀ o ∈ l, o.b.length ≤ 300 := by
    unfold lightR at hlight
    simp only [Bool.and_eq_true, List.all_eq_true, decide_eq_true_eq] at hlight
    exact hlight.2
  obtain ⟨n, hn⟩ : ∃ n, n = 2 + c % 8 := ⟨_, rfl⟩
  have hn2 : 2 ≤ n ∧ n ≤ 9 := by omega
  have u1 : IntKind.i64.wrap (c : Int) = (c : Int) := wrap_i64 (by omega)
  have u2 : (c : Int).tmod 8 = ((c % 8 : Nat) : Int) := (Int.ofNat_tmod c 8).symm
  obtain ⟨q, hq⟩ : ∃ q, q = c % 8 := ⟨_, rfl⟩
  rw [← hq] at u2 hn
  have u3 : IntKind.i64.wrap (q : Int) = (q : Int) := wrap_i64 (by omega)
  have u4 : IntKind.i64.wrap (2 + (q : Int)) = (n : Int) := by rw [wrap_i64 (by omega)]; omega
  simp -implicitDefEqProofs [hr3, q_law36_RingCrashes_3, u1, u2, u3, u4]
  simp -implicitDefEqProofs [hr4, q_law36_RingCrashes_4]
  refine w_disk_New (fun h => by omega) fun _ gd B1 d1 => ?_
  rw [Int.toNat_natCast] at d1
  have hres0 : Rest (Dsk.fresh n) := ⟨rfl, rfl⟩
  have on0 : RgL (Dsk.fresh n).last 0 n 0 [] := RgL.fresh (by omega) (by omega) (by omega)
  have hfu0 : (Dsk.fresh n).fuse = -1 := rfl
  have hst0 : (Dsk.fresh n).steps = 0 := rfl
  have hln0 : (Dsk.fresh n).last.length = n := by simp [Dsk.fresh]
  obtain ⟨D0, hD0⟩ : ∃ D, D = Dsk.fresh n := ⟨_, rfl⟩
  rw [← hD0] at d1 hres0 on0 hfu0 hst0 hln0
  simp -implicitDefEqProofs
  simp -implicitDefEqProofs [hr5, q_law36_RingCrashes_5]
  simp -implicitDefEqProofs [hr7, q_law36_RingCrashes_7]
  refine w_ring_New (fr := 0) (size := n) d1 (by omega) (by omega) (by decide) (fun h => by omega) fun _ gr hgr => ?_
  have q1 := RgAt.made d1 hres0 on0 hgr
  have h0gr : (H0.set gr (rgC gd 0 n 0 0)) gr = some (rgC gd 0 n 0 0) := set_eq'
  obtain ⟨B2, hB2⟩ : ∃ B2, B2 = B1.set gr (rgC gd 0 n 0 0) := ⟨_, rfl⟩
  rw [← hB2] at q1 ⊢
  clear hB2
  simp -implicitDefEqProofs
  simp -implicitDefEqProofs [hr8, q_law36_RingCrashes_8]
  simp -implicitDefEqProofs [hr10, q_law36_RingCrashes_10, shp, good, comps]
  intro gm hgm
  have q2 : RgAt ((H0.set gr (rgC gd 0 n 0 0)).set gm (refC n 0 .nilS)) gr gd 0 n 0 0 [] D0 (B2.set gm (refC n 0 .nilS)) :=
    ⟨by rw [set_ne' (fun e => by rw [← e, q1.br] at hgm; cases hgm)]; exact h0gr, rfl, q1.dk.rebase hgm, q1.rest, q1.on⟩
  simp -implicitDefEqProofs [hr11, q_law36_RingCrashes_11]
  refine X_lp (RcI gd gm n l) (fun i => l.length - i) 0 ⟨by omega, by simp, by simp, by simp, by simp, by simp, ⟨gr, _, D0, 0, 0, [], .nilS, by simp, by unfold refC at q2; exact q2, by unfold refC; exact set_eq', LsV.nil _, by omega, by omega, by omega⟩⟩ ?_
  clear q1 q2 d1 hgr hgm h0gr gr
  rintro i env B ⟨hil, e1, e5, e6, e10, e11, ⟨gr, A, D, t, h, L, v, e8, hrg, hAm, hv, hfu, hst, hhi⟩⟩
  have hbd := hrg.bnd
  have hhd := hrg.hd
  have hll := hrg.on.len
  have ngm' : ∀ {A : Heap} {gr gm t h x : Nat} {v : AV}, A gr = some (rgC gd 0 n t h) → A gm = some (refC n x v) → gm ≠ gr := fun h1 h2 e => by
    rw [e, h1] at h2
    unfold rgC refC at h2
    injection h2 with h2
    injection h2 with h1 _
    cases h1
  have hMb : ∀ {M : List (List Nat)} {A' : Heap} {gr' t' h' : Nat} {D' : Dsk} {B' : Heap}, RgAt A' gr' gd 0 n t' h' M D' B' → ∀ b ∈ M, Bytes b := fun hr b hb => (hr.on.rcs b hb).2
  rw [q_law36_RingCrashes_L42]
  obtain ⟨r14, hr14⟩ : ∃ r, r = q_law36_RingCrashes_14 := ⟨_, rfl⟩; rw [← hr14]
  obtain ⟨r15, hr15⟩ : ∃ r, r = q_law36_RingCrashes_15 := ⟨_, rfl⟩; rw [← hr15]
  obtain ⟨r16, hr16⟩ : ∃ r, r = q_law36_RingCrashes_16 := ⟨_, rfl⟩; rw [← hr16]
  obtain ⟨r17, hr17⟩ : ∃ r, r = q_law36_RingCrashes_17 := ⟨_, rfl⟩; rw [← hr17]
  obtain ⟨r18, hr18⟩ : ∃ r, r = q_law36_RingCrashes_18 := ⟨_, rfl⟩; rw [← hr18]
  obtain ⟨r19, hr19⟩ : ∃ r, r = q_law36_RingCrashes_19 := ⟨_, rfl⟩; rw [← hr19]
  obtain ⟨r20, hr20⟩ : ∃ r, r = q_law36_RingCrashes_20 := ⟨_, rfl⟩; rw [← hr20]
  obtain ⟨r21, hr21⟩ : ∃ r, r = q_law36_RingCrashes_21 := ⟨_, rfl⟩; rw [← hr21]
  obtain ⟨r22, hr22⟩ : ∃ r, r = q_law36_RingCrashes_22 := ⟨_, rfl⟩; rw [← hr22]
  obtain ⟨r23, hr23⟩ : ∃ r, r = q_law36_RingCrashes_23 := ⟨_, rfl⟩; rw [← hr23]
  obtain ⟨r24, hr24⟩ : ∃ r, r = q_law36_RingCrashes_24 := ⟨_, rfl⟩; rw [← hr24]
  obtain ⟨r25, hr25⟩ : ∃ r, r = q_law36_RingCrashes_25 := ⟨_, rfl⟩; rw [← hr25]
  obtain ⟨r26, hr26⟩ : ∃ r, r = q_law36_RingCrashes_26 := ⟨_, rfl⟩; rw [← hr26]
  obtain ⟨r27, hr27⟩ : ∃ r, r = q_law36_RingCrashes_27 := ⟨_, rfl⟩; rw [← hr27]
  obtain ⟨r29, hr29⟩ : ∃ r, r = q_law36_RingCrashes_29 := ⟨_, rfl⟩; rw [← hr29]
  obtain ⟨r30, hr30⟩ : ∃ r, r = q_law36_RingCrashes_30 := ⟨_, rfl⟩; rw [← hr30]
  obtain ⟨r31, hr31⟩ : ∃ r, r = q_law36_RingCrashes_31 := ⟨_, rfl⟩; rw [← hr31]
  obtain ⟨r38, hr38⟩ : ∃ r, r = q_law36_RingCrashes_38 := ⟨_, rfl⟩; rw [← hr38]
  obtain ⟨r40, hr40⟩ : ∃ r, r = q_law36_RingCrashes_40 := ⟨_, rfl⟩; rw [← hr40]
  obtain ⟨r41, hr41⟩ : ∃ r, r = q_law36_RingCrashes_41 := ⟨_, rfl⟩; rw [← hr41]
  obtain ⟨lp38, hlp38⟩ : ∃ r, r = q_law36_RingCrashes_L38 := ⟨_, rfl⟩; rw [← hlp38]
  obtain ⟨cE, hcE⟩ : ∃ c : ACode, c = (.seq (.seq (.region r38) (.cond (.t 179) (.seq (.region q_law36_RingCrashes_39) .ret) .skip)) (.region r40)) := ⟨_, rfl⟩
  rw [← hcE]
  obtain ⟨cA, hcA⟩ : ∃ c : ACode, c = (.seq (.region r30) (.seq (.region r31) (.seq (.block 2 (.loop lp38)) cE))) := ⟨_, rfl⟩
  rw [← hcA]
  obtain ⟨cB, hcB⟩ : ∃ c : ACode, c = (.seq (.seq (.region r22) (.cond (.t 117) (.seq (.region r23) (.seq (.region r24) (.exit 1))) .skip)) (.seq (.region r25) (.seq (.region r26) (.seq (.seq (.region r27) (.cond (.t 146) (.seq (.region q_law36_RingCrashes_28) .ret) .skip)) (.seq (.region r29) cA))))) := ⟨_, rfl⟩
  rw [← hcB]
  obtain ⟨cF, hcF⟩ : ∃ c : ACode, c = .region r41 := ⟨_, rfl⟩
  rw [← hcF]
  obtain ⟨RR, hRR⟩ : ∃ R, R = lp Try.prog (fin [ARes.tmp 4] (AV.bool true)) (Kt.blk 0 (Kt.thn (.seq (.region r42) .ret) Kt.done)) (RcI gd gm n l) (fun i => l.length - i) i := ⟨_, rfl⟩
  rw [← hRR]
  simp -implicitDefEqProofs [q_law36_RingCrashes_12, e1, e11]
  refine ⟨fun hlt => ?_, fun hge => ?_⟩
  · have hii : (i : Int) < l.length := by omega
    have wi : IntKind.i64.wrap ((i : Int) + 1) = ((i + 1 : Nat) : Int) := by rw [wrap_i64 (by omega)]; simp
    have hoi := hlb _ (List.getElem_mem hlt)
    have ho3 := hl300 _ (List.getElem_mem hlt)
    obtain ⟨o, ho⟩ : ∃ o, o = l[i] := ⟨_, rfl⟩
    have hE : roA l[i] = .agg [.int .i64 o.kind, .isl .u8 (ints o.b), .int .u8 o.to, .bool o.power, .int .u8 o.fuse, .bool o.keep] := by rw [ho]; rfl
    rw [← ho] at hoi ho3
    have rfs : ∀ {A' : Heap} {c : Nat} {x : Nat} {y : AV}, A' c = some (refC n x y) → ∀ l, refC n x y ≠ .row T_L_uint8 1 l := fun _ l e => by unfold refC at e; cases e
    have finis : ∀ (env' : AEnv) (C A' : Heap) (gr' : Nat) (D' : Dsk) (t' h' : Nat) (L' : List (List Nat)) (v' : AV), env' 1 = .dsl 6 (l.map roA) → env' 5 = .int .i64 n → env' 6 = .ptr gd 0 → env' 8 = .ptr gr' 0 → env' 10 = .ptr gm 0 → env' 11 = .int .i64 i →
        RgAt A' gr' gd 0 n t' h' L' D' C → A' gm = some (refC n t' v') → LsV A' v' L' → D'.fuse < 0 → D'.steps ≤ D.steps + 60 → h' ≤ i + 1 → AVL.X Try.prog RR cF Kt.done env' C := by
      intro env' C A' gr' D' t' h' L' v' f1 f5 f6 f8 f10 f11 hrg' hAm' hv' hfu' hst' hh'
      rw [hRR, hcF]
      simp -implicitDefEqProofs [hr41, q_law36_RingCrashes_41, f11, wi, -Int.natCast_add]
      exact lp_next (i + 1) ⟨by omega, by simp [f1], by simp [f5], by simp [f6], by simp [f10], by simp, ⟨gr', A', D', t', h', L', v', by simp [f8], hrg', hAm', hv', hfu', by omega, hh'⟩⟩ (by omega)
    -- the last of a round behind a crash
    have last : ∀ (env' : AEnv) (C A' : Heap) (go gw : Nat) (D' : Dsk) (tr hr : Nat) (Lr : List (List Nat)) (w : AV) (x : Nat) (y : AV), RcE gd gm n l i go gw env' → env' 16 = .bool true → RgAt A' go gd 0 n tr hr Lr D' C → A' gm = some (refC n x y) → y.size = 1 → A' gw = some (refC n tr w) → LsV C w Lr → D'.fuse < 0 → D'.steps ≤ D.steps + 60 → hr ≤ i + 1 →
        AVL.X Try.prog RR cE (Kt.blk 1 (Kt.thn cF Kt.done)) env' C := by
      intro env' C A' go gw D' tr hr Lr w x y E e16 hrg' hm' hys hw' hv' hfu' hst' hh'
      have hsw := hv'.scb
      have cw := hrg'.dk.sub _ _ hw'
      have cm := hrg'.dk.sub _ _ hm'
      have cw' := cw
      have cm' := cm
      unfold refC at cw' cm'
      simp -implicitDefEqProofs [hcE, hr38, q_law36_RingCrashes_38, e16]
      simp -implicitDefEqProofs [hr40, q_law36_RingCrashes_40, E.e10, E.e13, cw', cm', hys, hsw.shp, hsw.good, hsw.comps, hsw.agg, hsw.st, hsw.size]
      obtain ⟨A2, k2, h2, w2⟩ := hrg'.wide
      have hm2 := k2 _ _ hm'
      have ng := ngm' h2.ar hm2
      refine finis _ _ (A2.set gm (refC n tr w)) go D' tr hr Lr w (by simp [E.e1]) (by simp [E.e5]) (by simp [E.e6]) (by simp [E.e8]) (by simp [E.e10]) (by simp [E.e11]) ⟨?_, h2.hd, h2.dk.poke hm2, h2.rest, h2.on⟩ set_eq' ((w2 _ _ hv').set hm2 (rfs hm2)) hfu' hst' hh'
      rw [set_ne' (Ne.symm ng)]
      exact h2.ar
    have seek : ∀ (env' : AEnv) (C A' : Heap) (go gw tw : Nat) (LW : List (List Nat)) (D' : Dsk) (w : AV) (tr hr : Nat) (Lr : List (List Nat)), RcE gd gm n l i go gw env' → RgAt A' go gd 0 n tr hr Lr D' C → A' gm = some (refC n t v) → A' gw = some (refC n tw w) → gw ≠ gm → LsV A' v L → LsV A' w LW →
        ((tr = tw ∧ Lr = LW) ∨ ∃ j, tr = t + j ∧ Lr = L.drop j ∧ j ≤ L.length ∧ t + j ≤ tw) → tw + LW.length ≤ i + 1 → (∀ b ∈ LW, Bytes b) → hr ≤ i + 1 → D'.steps ≤ D.steps + 60 → D'.fuse < 0 →
        AVL.X Try.prog RR cA (Kt.blk 1 (Kt.thn cF Kt.done)) env' C := by
      intro env' C A' go gw tw LW D' w tr hr Lr E hrg' hm' hw' ngw hv' hvw how hln hbw hhr hst' hfu'
      have hsw := hvw.scb
      have hsv := hv'.scb
      have hhd' := hrg'.hd
      have cw := hrg'.dk.sub _ _ hw'
      have cw' := cw
      unfold refC at cw'
      simp -implicitDefEqProofs [hcA, hr30, q_law36_RingCrashes_30, E.e8, E.e13, cw', hsw.shp, hsw.good, hsw.comps, hsw.agg, hsw.size]
      refine w_law36_same (sz := n) hrg' (hvw.mono hrg'.dk.sub) (by omega) hbw fun F kF => ?_
      have hrgF := hrg'.mono kF
      have cm := hrgF.dk.sub _ _ hm'
      have cm' := cm
      unfold refC at cm'
      obtain ⟨met, hmet⟩ : ∃ met, met = decide (tw = tr ∧ LW = Lr) := ⟨_, rfl⟩
      rw [← hmet]
      simp -implicitDefEqProofs
      simp -implicitDefEqProofs [hr31, q_law36_RingCrashes_31, E.e10, cm', hsv.shp, hsv.good, hsv.comps, hsv.agg, hsv.st, hsv.size]
      intro gk hgk
      obtain ⟨A2, k2, h2, w2⟩ := hrgF.wide
      have hgo2 := h2.ar
      have hm2 := k2 _ _ hm'
      have hw2 := k2 _ _ hw'
      have hAk : A2 gk = none := by
        cases hx : A2 gk with
        | none => rfl
        | some c => have := h2.dk.sub _ _ hx; rw [hgk] at this; cases this
      have hA3 : A2.Sub (A2.set gk (refC n t v)) := sub_none hAk
      have hrg3 : RgAt (A2.set gk (refC n t v)) go gd 0 n tr hr Lr D' (F.set gk (refC n t v)) := ⟨hA3 _ _ h2.ar, h2.hd, h2.dk.rebase hgk, h2.rest, h2.on⟩
      have hw3 := hA3 _ _ hw2
      have hm3 := hA3 _ _ hm2
      have hv3 : LsV (F.set gk (refC n t v)) v L := ((hv'.mono hrgF.dk.sub)).mono (sub_none hgk)
      have hvw3 : LsV (F.set gk (refC n t v)) w LW := ((hvw.mono hrgF.dk.sub)).mono (sub_none hgk)
      have hFe : F.set gk (.var 42 [.int .i64 n, .int .i64 t, v]) = F.set gk (refC n t v) := rfl
      rw [hFe]
      obtain ⟨F3, hF3⟩ : ∃ F3, F3 = F.set gk (refC n t v) := ⟨_, rfl⟩
      rw [← hF3] at hrg3 hv3 hvw3 ⊢
      obtain ⟨J, hJ⟩ : ∃ J, met = false → tr = t + J ∧ Lr = L.drop J ∧ J ≤ L.length ∧ t + J ≤ tw := by
        cases met with
        | true => exact ⟨0, fun h => by cases h⟩
        | false =>
          rcases how with how | ⟨j, h1⟩
          · have := of_decide_eq_false hmet.symm
            exact absurd ⟨how.1.symm, how.2.symm⟩ this
          · exact ⟨j, fun _ => h1⟩
      have hme : met = true → tw = tr ∧ LW = Lr := fun h => of_decide_eq_true (by rw [← hmet]; exact h)
      have ngk : gk ≠ gw := fun e => by rw [e, hw2] at hAk; cases hAk
      have ngkm : gk ≠ gm := fun e => by rw [e, hm2] at hAk; cases hAk
      have hw3' : (A2.set gk (refC n t v)) gw = some (refC n tw w) := hw3
      refine X_lp (RcK gd gm n l i go gw gk t tw tr hr L LW Lr v J D') (fun p => if p.1 then 0 else 1 + (J - p.2)) (met, 0) ⟨⟨by simp [E.e1], by simp [E.e5], by simp [E.e6], by simp [E.e8], by simp [E.e10], by simp [E.e11], by simp [E.e13]⟩, by simp, by simp, ⟨_, v, w, hrg3, hm3, ngk, ngkm, ngw, ?_⟩⟩ ?_
      · cases met with
        | true =>
          obtain ⟨h5, h6⟩ := hme rfl
          exact ⟨by rw [← h5]; exact hw3', by rw [← h6]; exact hvw3⟩
        | false => exact ⟨hJ rfl, Nat.zero_le _, set_eq', hv3, hw3', hvw3⟩
      rintro ⟨m, j⟩ env2 G ⟨E2, e16, e17, ⟨A4, vk, w4, hrg4, hm4, nkw, nkm, nwm, hif⟩⟩
      rw [hlp38, q_law36_RingCrashes_L38]
      obtain ⟨r33, hr33⟩ : ∃ r, r = q_law36_RingCrashes_33 := ⟨_, rfl⟩; rw [← hr33]
      obtain ⟨r34, hr34⟩ : ∃ r, r = q_law36_RingCrashes_34 := ⟨_, rfl⟩; rw [← hr34]
      obtain ⟨r35, hr35⟩ : ∃ r, r = q_law36_RingCrashes_35 := ⟨_, rfl⟩; rw [← hr35]
      obtain ⟨r36, hr36⟩ : ∃ r, r = q_law36_RingCrashes_36 := ⟨_, rfl⟩; rw [← hr36]
      obtain ⟨r37, hr37⟩ : ∃ r, r = q_law36_RingCrashes_37 := ⟨_, rfl⟩; rw [← hr37]
      cases m with
      | true =>
        simp only [if_true] at hif
        obtain ⟨hw4, hv4⟩ := hif
        simp only at e16
        simp -implicitDefEqProofs [q_law36_RingCrashes_32, e16]
        exact last _ G A4 go gw D' tr hr Lr w4 t v ⟨by simp [E2.e1], by simp [E2.e5], by simp [E2.e6], by simp [E2.e8], by simp [E2.e10], by simp [E2.e11], by simp [E2.e13]⟩ (by simp [e16]) hrg4 hm4 hsv.size hw4 hv4 hfu' hst' hhr
      | false =>
        simp only [Bool.false_eq_true, if_false] at hif
        obtain ⟨⟨hJ1, hJ2, hJ3, hJ4⟩, hjJ, hk4, hvk4, hw4, hvw4⟩ := hif
        simp only at e16
        obtain ⟨T, hT⟩ : ∃ T, T = t + j := ⟨_, rfl⟩
        rw [← hT] at hk4
        have gkc := hrg4.dk.sub _ _ hk4
        have gwc := hrg4.dk.sub _ _ hw4
        have gkc' := gkc
        have gwc' := gwc
        unfold refC at gkc' gwc'
        have hsk := hvk4.scb
        have hsw4 := hvw4.scb
        have hle : T ≤ tw := by omega
        have hle' : (T : Int) ≤ tw := by omega
        simp -implicitDefEqProofs [q_law36_RingCrashes_32, e16, e17, E2.e13, gkc', gwc', hsk.size, hsw4.size, hle, hle', shp, good, comps]
        simp -implicitDefEqProofs [hr33, q_law36_RingCrashes_33, e17, E2.e8, gkc', hsk.shp, hsk.good, hsk.comps, hsk.agg, hsk.size]
        refine w_law36_same (sz := n) hrg4 hvk4 (by simp; omega) (fun b hb => hMb hrg _ (List.mem_of_mem_drop hb)) fun X kX => ?_
        have gkX := kX _ _ gkc'
        have gwX := kX _ _ gwc'
        have hrgX := hrg4.mono kX
        have hlk : ∀ F : AV → Prop, alen false vk F = F (.int .i64 (L.drop j).length) := fun F => hvk4.len
        have hdl : (L.drop j).length = L.length - j := by simp
        obtain ⟨dl, hdl'⟩ : ∃ dl, dl = L.length - j := ⟨_, rfl⟩
        rw [hdl, ← hdl'] at hlk
        by_cases hjj : j = J
        · have hyes : decide (T = tr ∧ L.drop j = Lr) = true := decide_eq_true ⟨by omega, by rw [hjj, hJ2]⟩
          rw [hyes]
          simp -implicitDefEqProofs
          simp -implicitDefEqProofs [hr34, q_law36_RingCrashes_34]
          simp -implicitDefEqProofs [hr35, q_law36_RingCrashes_35, e17, E2.e13, gkX, gwX, hsw4.size, hsk.shp, hsk.good, hsk.comps, hsk.agg, hsk.st, hsk.size]
          have hLr : L.drop j = Lr := by rw [hjj, hJ2]
          have hTr : T = tr := by omega
          have hvX := hvk4.mono kX
          have hgoA := hrgX.ar
          have nwo := ngm' hgoA hw4
          have hrg5 : RgAt (A4.set gw (refC n T vk)) go gd 0 n tr hr Lr D' (X.set gw (refC n T vk)) := ⟨by rw [set_ne' (Ne.symm nwo)]; exact hgoA, hrgX.hd, hrgX.dk.poke hw4, hrgX.rest, hrgX.on⟩
          have hXe : X.set gw (.var 42 [.int .i64 n, .int .i64 T, vk]) = X.set gw (refC n T vk) := rfl
          rw [hXe]
          have hv5 : LsV (X.set gw (refC n T vk)) vk (L.drop j) := hvX.set (hrgX.dk.sub _ _ hw4) (rfs hw4)
          obtain ⟨A5, hA5⟩ : ∃ A5, A5 = A4.set gw (refC n T vk) := ⟨_, rfl⟩
          have hw5 : A5 gw = some (refC n T vk) := by rw [hA5]; exact set_eq'
          have hk5 : A5 gk = some (refC n T vk) := by rw [hA5, set_ne' nkw]; exact hk4
          have hm5 : A5 gm = some (refC n t v) := by rw [hA5, set_ne' (Ne.symm nwm)]; exact hm4
          rw [← hA5] at hrg5
          obtain ⟨X5, hX5⟩ : ∃ X5, X5 = X.set gw (refC n T vk) := ⟨_, rfl⟩
          rw [← hX5] at hrg5 hv5 ⊢
          have gk5 := hrg5.dk.sub _ _ hk5
          have gk5' := gk5
          unfold refC at gk5'
          by_cases hd0 : dl = 0
          · have hd0' : (dl : Int) = 0 := by omega
            simp -implicitDefEqProofs [hr36, q_law36_RingCrashes_36, e17, gk5', hlk, hd0, hd0', hsk.shp, hsk.good, hsk.comps, hsk.agg, hsk.size]
            exact last _ X5 A5 go gw D' tr hr Lr vk t v ⟨by simp [E2.e1], by simp [E2.e5], by simp [E2.e6], by simp [E2.e8], by simp [E2.e10], by simp [E2.e11], by simp [E2.e13]⟩ (by simp) hrg5 hm5 hsv.size (by rw [← hTr]; exact hw5) (by rw [← hLr]; exact hv5) hfu' hst' hhr
          · have hd0' : ¬ (dl : Int) = 0 := by omega
            have wT : IntKind.i64.wrap ((T : Int) + 1) = (T : Int) + 1 := wrap_i64 (by omega)
            simp -implicitDefEqProofs [hr36, q_law36_RingCrashes_36, e17, gk5', hlk, hd0, hd0', hsk.shp, hsk.good, hsk.comps, hsk.agg, hsk.size]
            simp -implicitDefEqProofs [hr37, q_law36_RingCrashes_37, e17, gk5', wT, hsk.shp, hsk.good, hsk.comps, hsk.agg, hsk.size]
            refine w_ref36_Drop (size := n) hv5 (by simp; omega) ((T : Int) + 1) fun j2 v6 X6 hj2 k6 hv6 => ?_
            have gk6 := k6 _ _ gk5'
            have hs6 := hv6.scb
            have hrg6 := hrg5.mono k6
            obtain ⟨T6, hT6⟩ : ∃ T6, T6 = T + j2 := ⟨_, rfl⟩
            rw [← hT6]
            unfold rfV
            simp -implicitDefEqProofs [e17, gk6, hsk.size, hs6.shp, hs6.good, hs6.comps, hs6.agg, hs6.st, hs6.size]
            have hXe6 : X6.set gk (.var 42 [.int .i64 n, .int .i64 T6, v6]) = X6.set gk (refC n T6 v6) := rfl
            rw [hXe6]
            refine lp_next (true, j) ⟨⟨by simp [E2.e1], by simp [E2.e5], by simp [E2.e6], by simp [E2.e8], by simp [E2.e10], by simp [E2.e11], by simp [E2.e13]⟩, by simp, by simp [e17], ⟨A5.set gk (refC n T6 v6), v6, vk, ⟨?_, hrg6.hd, hrg6.dk.poke hk5, hrg6.rest, hrg6.on⟩, ?_, nkw, nkm, nwm, ?_, ?_⟩⟩ (by simp; omega)
            · rw [set_ne' (Ne.symm (ngm' hrg6.ar hk5))]; exact hrg6.ar
            · rw [set_ne' (Ne.symm nkm)]; exact hm5
            · rw [set_ne' (Ne.symm nkw), ← hTr]; exact hw5
            · rw [← hLr]; exact (hv5.mono k6).set (hrg6.dk.sub _ _ hk5) (rfs hk5)
        · have hno : decide (T = tr ∧ L.drop j = Lr) = false := decide_eq_false fun hh => hjj (by omega)
          rw [hno]
          have hd0 : ¬ dl = 0 := by omega
          have hd0' : ¬ (dl : Int) = 0 := by omega
          have wT : IntKind.i64.wrap ((T : Int) + 1) = (T : Int) + 1 := wrap_i64 (by omega)
          simp -implicitDefEqProofs
          simp -implicitDefEqProofs [hr34, q_law36_RingCrashes_34]
          simp -implicitDefEqProofs [hr36, q_law36_RingCrashes_36, e17, gkX, hlk, hd0, hd0', hsk.shp, hsk.good, hsk.comps, hsk.agg, hsk.size]
          simp -implicitDefEqProofs [hr37, q_law36_RingCrashes_37, e17, gkX, wT, hsk.shp, hsk.good, hsk.comps, hsk.agg, hsk.size]
          refine w_ref36_Drop (size := n) (hvk4.mono kX) (by simp; omega) ((T : Int) + 1) fun j2 v6 X6 hj2 k6 hv6 => ?_
          have hj1 : j2 = 1 := by unfold endT at hj2; omega
          subst hj1
          have gk6 := k6 _ _ gkX
          have hs6 := hv6.scb
          have hrg6 := hrgX.mono k6
          rw [List.drop_drop] at hv6
          obtain ⟨T6, hT6⟩ : ∃ T6, T6 = T + 1 := ⟨_, rfl⟩
          rw [← hT6]
          unfold rfV
          simp -implicitDefEqProofs [e17, gk6, hsk.size, hs6.shp, hs6.good, hs6.comps, hs6.agg, hs6.st, hs6.size]
          have hXe6 : X6.set gk (.var 42 [.int .i64 n, .int .i64 T6, v6]) = X6.set gk (refC n T6 v6) := rfl
          rw [hXe6]
          refine lp_next (false, j + 1) ⟨⟨by simp [E2.e1], by simp [E2.e5], by simp [E2.e6], by simp [E2.e8], by simp [E2.e10], by simp [E2.e11], by simp [E2.e13]⟩, by simp, by simp [e17], ⟨A4.set gk (refC n T6 v6), v6, w4, ⟨?_, hrg6.hd, hrg6.dk.poke hk4, hrg6.rest, hrg6.on⟩, ?_, nkw, nkm, nwm, ⟨hJ1, hJ2, hJ3, hJ4⟩, by omega, ?_, ?_, ?_, ?_⟩⟩ (by simp; omega)
          · rw [set_ne' (Ne.symm (ngm' hrg6.ar hk4))]; exact hrg6.ar
          · rw [set_ne' (Ne.symm nkm)]; exact hm4
          · rw [set_eq', hT6, hT]; rfl
          · exact hv6.set (hrg6.dk.sub _ _ hk4) (rfs hk4)
          · rw [set_ne' (Ne.symm nkw)]; exact hw4
          · exact (((hvw4.mono kX).mono k6)).set (hrg6.dk.sub _ _ hk4) (rfs hk4)
    have down : ∀ (env' : AEnv) (C A' : Heap) (gw tw : Nat) (LW : List (List Nat)) (D' : Dsk) (w : AV), RcE gd gm n l i gr gw env' → DskAt A' gd D' C → A' gm = some (refC n t v) → A' gw = some (refC n tw w) → gw ≠ gm → LsV A' v L → LsV A' w LW → AfC gd gr n t L tw LW A' D' → tw + LW.length ≤ i + 1 → (∀ b ∈ LW, Bytes b) → D'.steps ≤ D.steps + 30 →
        AVL.X Try.prog RR cB (Kt.blk 1 (Kt.thn cF Kt.done)) env' C := by
      intro env' C A' gw tw LW D' w E hdk hm' hw' ngw hv' hvw haf hln hbw hst'
      have hsw := hvw.scb
      have hsv := hv'.scb
      have cw := hdk.sub _ _ hw'
      have cm := hdk.sub _ _ hm'
      have cw' := cw
      have cm' := cm
      unfold refC at cw' cm'
      rcases haf with ⟨hres, hgr, hon⟩ | ⟨hdn, hwt, hcr⟩
      · simp -implicitDefEqProofs [hcB, hr22, q_law36_RingCrashes_22, E.e6]
        refine w_disk_Down hdk ?_
        rw [hres.down]
        simp -implicitDefEqProofs
        simp -implicitDefEqProofs [hr23, q_law36_RingCrashes_23, E.e6]
        refine w_disk_Fuse hdk (by decide) fun C2 hC2 => ?_
        have c2w := hC2.sub _ _ hw'
        have c2m := hC2.sub _ _ hm'
        unfold refC at c2w c2m
        simp -implicitDefEqProofs
        simp -implicitDefEqProofs [hr24, q_law36_RingCrashes_24, E.e10, E.e13, c2w, c2m, hsv.size, hsw.shp, hsw.good, hsw.comps, hsw.agg, hsw.st, hsw.size]
        refine finis _ _ (A'.set gm (refC n tw w)) gr (D'.setFuse (-1)) tw (tw + LW.length) LW w (by simp [E.e1]) (by simp [E.e5]) (by simp [E.e6]) (by simp [E.e8]) (by simp [E.e10]) (by simp [E.e11]) ⟨?_, rfl, hC2.poke hm', hres.setFuse _, hon⟩ set_eq' (hvw.set hm' (rfs hm')) (by show (if (-1 : Int) < 0 then (-1 : Int) else -1) < 0; decide) (by show D'.steps ≤ _; omega) hln
        rw [set_ne' (Ne.symm (ngm' hgr hm'))]
        exact hgr
      · simp -implicitDefEqProofs [hcB, hr22, q_law36_RingCrashes_22, E.e6]
        refine w_disk_Down hdk ?_
        rw [hdn]
        simp -implicitDefEqProofs
        simp -implicitDefEqProofs [hr25, q_law36_RingCrashes_25, E.e1, E.e6, E.e11, hlt, hii]
        rw [hE]
        simp -implicitDefEqProofs [shp, good, comps]
        intro gb hgb
        refine w_disk_Crash (hdk.rebase hgb) (by omega) (keep := [o.keep]) (.inr ⟨gb, rfl, set_eq'⟩) fun C2 hC2 => ?_
        have hAb : A' gb = none := by
          cases hx : A' gb with
          | none => rfl
          | some c => have := hdk.sub _ _ hx; rw [hgb] at this; cases this
        obtain ⟨A2, hA2e, kA2⟩ : ∃ A2 : Heap, A2 = A'.set gb (.row T_bool 1 (bls [o.keep])) ∧ A'.Sub A2 := ⟨_, rfl, sub_none hAb⟩
        have hC2' : DskAt A2 gd (D'.crash [o.keep]) C2 := by rw [hA2e]; exact hC2
        obtain ⟨tr, Lr, hcrl⟩ := hcr o.keep
        have hRest : Rest (D'.crash [o.keep]) := Rest.crash _
        have hf2 : (D'.crash [o.keep]).fuse = -1 := rfl
        have hs2 : (D'.crash [o.keep]).steps = D'.steps := rfl
        obtain ⟨D2, hD2⟩ : ∃ D2, D2 = D'.crash [o.keep] := ⟨_, rfl⟩
        rw [← hD2] at hC2' hRest hf2 hs2 hcrl
        have hm2 := kA2 _ _ hm'
        have hw2 := kA2 _ _ hw'
        have c2m := hC2'.sub _ _ hm2
        unfold refC at c2m
        have hlv : ∀ F : AV → Prop, alen false v F = F (.int .i64 L.length) := fun F => hv'.len
        have wN : IntKind.i64.wrap ((t : Int) + (L.length : Int)) = ((t + L.length : Nat) : Int) := by rw [wrap_i64 (by omega)]; omega
        obtain ⟨N, hN⟩ : ∃ N, N = t + L.length := ⟨_, rfl⟩
        rw [← hN] at wN
        simp -implicitDefEqProofs
        simp -implicitDefEqProofs [hr26, q_law36_RingCrashes_26, E.e5, E.e6, E.e10, c2m, hlv, wN, hsv.shp, hsv.good, hsv.comps, hsv.agg, hsv.size]
        refine w_ring_Open (fr := 0) (size := n) (tail := tr) (L := Lr) (next := N) hC2' hRest hcrl.on (by omega) (by omega) (fun hL => by rw [hN]; exact (hcrl.nil hL).symm) (by omega) fun go D3 C3 hgo hro hfo hso => ?_
        have kA3 : A2.Sub (A2.set go (rgC gd 0 n tr (tr + Lr.length))) := sub_none hgo
        simp -implicitDefEqProofs
        simp -implicitDefEqProofs [hr27, q_law36_RingCrashes_27]
        simp -implicitDefEqProofs [hr29, q_law36_RingCrashes_29]
        have hnum := hcrl.num
        exact seek _ C3 _ go gw tw LW D3 w tr _ Lr ⟨by simp [E.e1], by simp [E.e5], by simp [E.e6], by simp, by simp [E.e10], by simp [E.e11], by simp [E.e13]⟩ hro (kA3 _ _ hm2) (kA3 _ _ hw2) ngw ((hv'.mono kA2).mono kA3) ((hvw.mono kA2).mono kA3) hcrl.how hln hbw (by omega) (by omega) (by omega)
    -- an act
    have act : ∀ (env' : AEnv) (C : Heap) (D' : Dsk), env' 1 = .dsl 6 (l.map roA) → env' 5 = .int .i64 n → env' 6 = .ptr gd 0 → env' 8 = .ptr gr 0 → env' 10 = .ptr gm 0 → env' 11 = .int .i64 i → RgAt A gr gd 0 n t h L D' C → D'.steps = D.steps →
        XD Try.prog RR r15 (Kt.thn (.seq (.region r16) (.seq (.seq (.region r17) (.cond (.t 87) (.seq (.region r18) (.region r19)) (.seq (.region r20) (.regionD r21)))) cB)) (Kt.blk 1 (Kt.thn cF Kt.done))) env' C := by
      intro env' C D' f1 f5 f6 f8 f10 f11 hrg1 hst1
      have hsv := hv.scb
      have cm := hrg1.dk.sub _ _ hAm
      have cm' := cm
      unfold refC at cm'
      have wto : IntKind.i64.wrap (o.to : Int) = (o.to : Int) := wrap_i64 (by omega)
      have m12 : (o.to : Int).tmod 12 = ((o.to % 12 : Nat) : Int) := (Int.ofNat_tmod o.to 12).symm
      obtain ⟨q12, hq12⟩ : ∃ q, q = o.to % 12 := ⟨_, rfl⟩
      rw [← hq12] at m12
      have wq : IntKind.i64.wrap (q12 : Int) = (q12 : Int) := wrap_i64 (by omega)
      have wtq : IntKind.i64.wrap ((t : Int) + (q12 : Int)) = ((t + q12 : Nat) : Int) := by rw [wrap_i64 (by omega)]; omega
      obtain ⟨to, hto⟩ : ∃ to, to = t + q12 := ⟨_, rfl⟩
      rw [← hto] at wtq
      simp -implicitDefEqProofs [hr15, q_law36_RingCrashes_15, f1, f10, f11, cm', hlt, hii, hsv.size]
      rw [hE]
      simp -implicitDefEqProofs [wto, m12, wq, wtq, shp, good, comps]
      simp -implicitDefEqProofs [hr16, q_law36_RingCrashes_16, f10, cm', hsv.shp, hsv.good, hsv.comps, hsv.agg, hsv.st, hsv.size]
      intro gw hgw
      have hAw : A gw = none := by
        cases hx : A gw with
        | none => rfl
        | some c => have := hrg1.dk.sub _ _ hx; rw [hgw] at this; cases this
      have ngw : gw ≠ gm := fun e => by rw [e, hAm] at hAw; cases hAw
      have ngo : gw ≠ gr := fun e => by rw [e, hrg1.ar] at hAw; cases hAw
      obtain ⟨A2, hA2e, kA2⟩ : ∃ A2 : Heap, A2 = A.set gw (refC n t v) ∧ A.Sub A2 := ⟨_, rfl, sub_none hAw⟩
      have hrg2 : RgAt A2 gr gd 0 n t h L D' (C.set gw (refC n t v)) := ⟨kA2 _ _ hrg1.ar, hrg1.hd, by rw [hA2e]; exact hrg1.dk.rebase hgw, hrg1.rest, hrg1.on⟩
      have hCe : C.set gw (.var 42 [.int .i64 n, .int .i64 t, v]) = C.set gw (refC n t v) := rfl
      rw [hCe]
      obtain ⟨C2, hC2⟩ : ∃ C2, C2 = C.set gw (refC n t v) := ⟨_, rfl⟩
      rw [← hC2] at hrg2 ⊢
      have hm2 := kA2 _ _ hAm
      have hw2 : A2 gw = some (refC n t v) := by rw [hA2e]; exact set_eq'
      have hv2 := hv.mono kA2
      clear hCe hC2 hgw
      by_cases hk2 : o.kind = 2
      · simp -implicitDefEqProofs [hr17, q_law36_RingCrashes_17, f1, f11, hlt, hii]
        rw [hE]
        simp -implicitDefEqProofs [hk2, shp, good, comps]
        have dropped : ∀ (env2 : AEnv) (C3 A3 : Heap) (D3 : Dsk) (J : Nat), t + J = endT t (t + L.length) (to : Nat) → RcE gd gm n l i gr gw env2 → env2 12 = .int .i64 (to : Nat) → DskAt A3 gd D3 C3 → A3 gm = some (refC n t v) → A3 gw = some (refC n t v) → LsV A3 v L → AfC gd gr n t L (t + J) (L.drop J) A3 D3 → D3.steps ≤ D.steps + 30 →
            XO Try.prog RR r19 (Kt.thn cB (Kt.blk 1 (Kt.thn cF Kt.done))) env2 C3 := by
          intro env2 C3 A3 D3 J hJ E f12 hdk hm3 hw3 hv3 haf hst3
          have c3m := hdk.sub _ _ hm3
          have c3w := hdk.sub _ _ hw3
          unfold refC at c3m c3w
          simp -implicitDefEqProofs [hr19, q_law36_RingCrashes_19, E.e10, E.e13, f12, c3m, c3w, hsv.shp, hsv.good, hsv.comps, hsv.agg, hsv.size]
          refine w_ref36_Drop (size := n) (hv3.mono hdk.sub) (by omega) (to : Nat) fun j2 v2 C4 hj2 k2 hv4 => ?_
          have hjj : j2 = J := by omega
          subst hjj
          have hs2 := hv4.scb
          have c4w := k2 _ _ c3w
          obtain ⟨A4, k4, d4, w4⟩ := (hdk.mono k2).wideL
          have hm4 := k4 _ _ hm3
          have hw4 := k4 _ _ hw3
          have hv4' := w4 _ _ hv4
          obtain ⟨T, hT⟩ : ∃ T, T = t + j2 := ⟨_, rfl⟩
          unfold rfV
          rw [← hT] at haf ⊢
          simp -implicitDefEqProofs [E.e10, E.e13, c4w, hsv.size, hs2.shp, hs2.good, hs2.comps, hs2.agg, hs2.st, hs2.size]
          have hXe : C4.set gw (.var 42 [.int .i64 n, .int .i64 T, v2]) = C4.set gw (refC n T v2) := rfl
          rw [hXe]
          refine down _ _ (A4.set gw (refC n T v2)) gw T (L.drop j2) D3 v2 ⟨by simp [E.e1], by simp [E.e5], by simp [E.e6], by simp [E.e8], by simp [E.e10], by simp [E.e11], by simp [E.e13]⟩ (d4.poke hw4) ?_ set_eq' ngw ((hv3.mono k4).set hw4 (rfs hw4)) (hv4'.set hw4 (rfs hw4)) (haf.set fun c hc => ?_) ?_ (fun b hb => hMb hrg _ (List.mem_of_mem_drop hb)) hst3
          · rw [set_ne' (Ne.symm ngw)]; exact hm4
          · rw [set_ne' (Ne.symm ngo)]; exact k4 _ _ hc
          · have : endT t (t + L.length) (to : Nat) ≤ t + L.length := by unfold endT; omega
            simp
            omega
        simp -implicitDefEqProofs [hr18, q_law36_RingCrashes_18, f8]
        refine w_ring_Drop hrg2 (by omega) (to : Nat) (fun j D3 C3 hj hrg3 hs3 hf3 => ?_) fun hf j c D3 C3 hlt3 hjl hdk3 hdn3 hwt3 hs3 hcr3 => ?_
        · have hj9 : j ≤ 10 := by unfold endT at hj; omega
          simp -implicitDefEqProofs
          refine dropped _ _ _ D3 j (by rw [← hhd]; exact hj) ⟨by simp [f1], by simp [f5], by simp [f6], by simp [f8], by simp [f10], by simp [f11], by simp⟩ (by simp) hrg3.dk ?_ ?_ (hv2.set hrg2.ar (fun l e => by unfold rgC at e; cases e)) (.inl ⟨hrg3.rest, ?_, hrg3.on⟩) (by omega)
          · rw [set_ne' (ngm' hrg2.ar hm2)]; exact hm2
          · rw [set_ne' ngo]; exact hw2
          · rw [set_eq', ← hrg3.hd]
        · obtain ⟨J, hJ⟩ : ∃ J, t + J = endT t h (to : Nat) := ⟨endT t h (to : Nat) - t, by omega⟩
          have hJl : J ≤ L.length := by unfold endT at hJ; omega
          simp -implicitDefEqProofs
          refine dropped _ _ _ D3 J (by rw [← hhd]; exact hJ) ⟨by simp [f1], by simp [f5], by simp [f6], by simp [f8], by simp [f10], by simp [f11], by simp⟩ (by simp) hdk3 ?_ ?_ (hv2.set hrg2.ar (fun l e => by unfold rgC at e; cases e)) (.inr ⟨hdn3, hwt3, fun k => ?_⟩) (by omega)
          · rw [set_ne' (ngm' hrg2.ar hm2)]; exact hm2
          · rw [set_ne' ngo]; exact hw2
          · rcases hcr3 k with hk | hk
            · refine ⟨t + j, L.drop j, hk, fun hL => ?_, by simp; omega, .inr ⟨j, rfl, rfl, by omega, by omega⟩⟩
              have : (L.drop j).length = 0 := by rw [hL]; rfl
              simp at this
              omega
            · refine ⟨t + j + 1, L.drop (j + 1), hk, fun hL => ?_, by simp; omega, .inr ⟨j + 1, by omega, rfl, by omega, by omega⟩⟩
              have : (L.drop (j + 1)).length = 0 := by rw [hL]; rfl
              simp at this
              omega
      · simp -implicitDefEqProofs [hr17, q_law36_RingCrashes_17, f1, f11, hlt, hii]
        rw [hE]
        simp -implicitDefEqProofs [hk2, shp, good, comps]
        have added : ∀ (env2 : AEnv) (C3 A3 : Heap) (D3 : Dsk) (LW : List (List Nat)), (apC n t L o.b = 0 → LW = L ++ [o.b]) → (apC n t L o.b ≠ 0 → LW = L) → RcE gd gm n l i gr gw env2 → DskAt A3 gd D3 C3 → A3 gm = some (refC n t v) → A3 gw = some (refC n t v) → LsV A3 v L → AfC gd gr n t L t LW A3 D3 → D3.steps ≤ D.steps + 30 →
            XD Try.prog RR r21 (Kt.thn cB (Kt.blk 1 (Kt.thn cF Kt.done))) env2 C3 := by
          intro env2 C3 A3 D3 LW hy hno E hdk hm3 hw3 hv3 haf hst3
          have c3m := hdk.sub _ _ hm3
          have c3w := hdk.sub _ _ hw3
          unfold refC at c3m c3w
          have hLb : ∀ b ∈ L ++ [o.b], Bytes b := fun b hb => by
            rcases List.mem_append.1 hb with hb | hb
            · exact hMb hrg _ hb
            · rw [List.mem_singleton.1 hb]; exact hoi.1
          have fin : ∀ (v2 : AV) (C4 : Heap) (N cc : Int) (env3 : AEnv), C3.Sub C4 → LsV C4 v2 LW → RcE gd gm n l i gr gw env3 → AVL.X Try.prog RR cB (Kt.blk 1 (Kt.thn cF Kt.done)) env3 (C4.set gw (refC n t v2)) := by
            intro v2 C4 N cc env3 k2 hv4 E3
            obtain ⟨A4, k4, d4, w4⟩ := (hdk.mono k2).wideL
            have hm4 := k4 _ _ hm3
            have hw4 := k4 _ _ hw3
            have hv4' := w4 _ _ hv4
            refine down _ _ (A4.set gw (refC n t v2)) gw t LW D3 v2 E3 (d4.poke hw4) ?_ set_eq' ngw ((hv3.mono k4).set hw4 (rfs hw4)) (hv4'.set hw4 (rfs hw4)) (haf.set fun c hc => ?_) ?_ ?_ hst3
            · rw [set_ne' (Ne.symm ngw)]; exact hm4
            · rw [set_ne' (Ne.symm ngo)]; exact k4 _ _ hc
            · by_cases hc0 : apC n t L o.b = 0
              · rw [hy hc0]; simp; omega
              · rw [hno hc0]; omega
            · by_cases hc0 : apC n t L o.b = 0
              · rw [hy hc0]; exact hLb
              · rw [hno hc0]; exact hMb hrg
          simp -implicitDefEqProofs [hr21, q_law36_RingCrashes_21, E.e1, E.e10, E.e11, E.e13, c3m, c3w, hlt, hii, hsv.shp, hsv.good, hsv.comps, hsv.agg, hsv.size]
          rw [hE]
          simp -implicitDefEqProofs [shp, good, comps]
          refine w_ref36_Append (size := n) (hv3.mono hdk.sub) hoi.1 (by omega) (by omega) hll (by omega) (fun hc0 C4 k2 => ?_) (fun hc0 v2 C4 k2 hv4 => ?_)
          · have c4w := k2 _ _ c3w
            unfold rfV
            simp -implicitDefEqProofs [E.e10, E.e13, c4w, hsv.shp, hsv.good, hsv.comps, hsv.agg, hsv.st, hsv.size]
            have hXe : C4.set gw (.var 42 [.int .i64 n, .int .i64 t, v]) = C4.set gw (refC n t v) := rfl
            rw [hXe]
            refine fin v C4 0 0 _ k2 (by rw [hno hc0]; exact (hv3.mono hdk.sub).mono k2) ⟨by simp [E.e1], by simp [E.e5], by simp [E.e6], by simp [E.e8], by simp [E.e10], by simp [E.e11], by simp [E.e13]⟩
          · have c4w := k2 _ _ c3w
            have hs2 := hv4.scb
            obtain ⟨N2, hN2⟩ : ∃ N2 : Int, N2 = ((t + L.length : Nat) : Int) := ⟨_, rfl⟩
            rw [← hN2]
            unfold rfV
            simp -implicitDefEqProofs [E.e10, E.e13, c4w, hsv.size, hs2.shp, hs2.good, hs2.comps, hs2.agg, hs2.st, hs2.size]
            have hXe : C4.set gw (.var 42 [.int .i64 n, .int .i64 t, v2]) = C4.set gw (refC n t v2) := rfl
            rw [hXe]
            refine fin v2 C4 0 0 _ k2 (by rw [hy hc0]; exact hv4) ⟨by simp [E.e1], by simp [E.e5], by simp [E.e6], by simp [E.e8], by simp [E.e10], by simp [E.e11], by simp [E.e13]⟩
        simp -implicitDefEqProofs [hr20, q_law36_RingCrashes_20, f1, f8, f11, hlt, hii]
        rw [hE]
        simp -implicitDefEqProofs [shp, good, comps]
        have E0 : ∀ env3 : AEnv, env3 1 = .dsl 6 (l.map roA) → env3 5 = .int .i64 n → env3 6 = .ptr gd 0 → env3 8 = .ptr gr 0 → env3 10 = .ptr gm 0 → env3 11 = .int .i64 i → env3 13 = .ptr gw 0 → RcE gd gm n l i gr gw env3 := fun _ h1 h2 h3 h4 h5 h6 h7 => ⟨h1, h2, h3, h4, h5, h6, h7⟩
        refine w_ring_Append (b := o.b) hrg2 (by omega) (by omega) (BsV.isl o.b) hoi.1 (by omega) (fun hf => ?_) (fun hnf hb1 C3 kC => ?_) (fun hnf hb1 hp C3 hrg3 => ?_) fun hnf hb1 hp C3 hdk3 => ?_
        · have hap : apC n t L o.b ≠ 0 := by rw [apC_num (by omega), if_pos hf]; decide
          simp -implicitDefEqProofs
          exact added _ _ A2 D' L (fun h0 => absurd h0 hap) (fun _ => rfl) ⟨by simp [f1], by simp [f5], by simp [f6], by simp [f8], by simp [f10], by simp [f11], by simp⟩ hrg2.dk hm2 hw2 hv2 (.inl ⟨hrg2.rest, by rw [← hhd]; exact hrg2.ar, hrg2.on⟩) (by omega)
        · have hap : apC n t L o.b ≠ 0 := by rw [apC_num (by omega), if_neg (by omega), if_pos hb1]; decide
          simp -implicitDefEqProofs
          exact added _ _ A2 D' L (fun h0 => absurd h0 hap) (fun _ => rfl) ⟨by simp [f1], by simp [f5], by simp [f6], by simp [f8], by simp [f10], by simp [f11], by simp⟩ (hrg2.mono kC).dk hm2 hw2 hv2 (.inl ⟨hrg2.rest, by rw [← hhd]; exact hrg2.ar, hrg2.on⟩) (by omega)
        · have hap : apC n t L o.b = 0 := by rw [apC_num (by omega), if_neg (by omega), if_neg (by omega)]
          have hs3 := D'.put_steps (0 + h % n) (recS h o.b)
          obtain ⟨D3, hD3⟩ : ∃ D3, D3 = (D'.put (0 + h % n) (recS h o.b)).1 := ⟨_, rfl⟩
          rw [← hD3] at hrg3 hs3
          simp -implicitDefEqProofs
          refine added _ _ _ D3 (L ++ [o.b]) (fun _ => rfl) (fun h0 => absurd hap h0) ⟨by simp [f1], by simp [f5], by simp [f6], by simp [f8], by simp [f10], by simp [f11], by simp⟩ hrg3.dk ?_ ?_ (hv2.set hrg2.ar (fun l e => by unfold rgC at e; cases e)) (.inl ⟨hrg3.rest, ?_, hrg3.on⟩) (by omega)
          · rw [set_ne' (ngm' hrg2.ar hm2)]; exact hm2
          · rw [set_ne' ngo]; exact hw2
          · rw [set_eq', ← hrg3.hd]
        · have hap : apC n t L o.b = 0 := by rw [apC_num (by omega), if_neg (by omega), if_neg (by omega)]
          have hs3 := D'.put_steps (0 + h % n) (recS h o.b)
          have hbad := Dsk.put_bad hrg2.rest hp
          have happ := hrg2.on.app hnf hb1 hoi.1 (by omega)
          rw [← hhd] at happ
          obtain ⟨D3, hD3⟩ : ∃ D3, D3 = (D'.put (0 + h % n) (recS h o.b)).1 := ⟨_, rfl⟩
          rw [← hD3] at hdk3 hs3 hbad
          simp -implicitDefEqProofs
          refine added _ _ A2 D3 (L ++ [o.b]) (fun _ => rfl) (fun h0 => absurd hap h0) ⟨by simp [f1], by simp [f5], by simp [f6], by simp [f8], by simp [f10], by simp [f11], by simp⟩ hdk3 hm2 hw2 hv2 (.inr ⟨hbad.2.1, hbad.2.2.1, fun k => ?_⟩) (by omega)
          rcases hbad.2.2.2 k with hk | hk
          · exact ⟨t, L, by rw [hk]; exact hrg2.on, fun hL => by simp [hL], by omega, .inr ⟨0, by omega, by simp, by omega, by omega⟩⟩
          · exact ⟨t, L ++ [o.b], by rw [hk]; exact happ, fun hL => absurd hL (by simp), by simp; omega, .inl ⟨rfl, rfl⟩⟩
    simp -implicitDefEqProofs [q_law36_RingCrashes_13, e1, e11, hlt, hii]
    rw [hE]
    cases hpw : o.power with
    | false =>
      simp -implicitDefEqProofs [hpw, shp, good, comps]
      exact act _ _ _ (by simp [e1]) (by simp [e5]) (by simp [e6]) (by simp [e8]) (by simp [e10]) (by simp [e11]) hrg rfl
    | true =>
      have wf : IntKind.i64.wrap (o.fuse : Int) = (o.fuse : Int) := wrap_i64 (by omega)
      have m30 : (o.fuse : Int).tmod 30 = ((o.fuse % 30 : Nat) : Int) := (Int.ofNat_tmod o.fuse 30).symm
      obtain ⟨fz, hfz⟩ : ∃ fz, fz = o.fuse % 30 := ⟨_, rfl⟩
      rw [← hfz] at m30
      have wfz : IntKind.i64.wrap (fz : Int) = (fz : Int) := wrap_i64 (by omega)
      simp -implicitDefEqProofs [hpw, shp, good, comps]
      simp -implicitDefEqProofs [hr14, q_law36_RingCrashes_14, e1, e6, e11, hlt, hii]
      rw [hE]
      simp -implicitDefEqProofs [wf, m30, wfz, shp, good, comps]
      refine w_disk_Fuse hrg.dk (by omega) fun C hC => ?_
      simp -implicitDefEqProofs
      exact act _ _ _ (by simp [e1]) (by simp [e5]) (by simp [e6]) (by simp [e8]) (by simp [e10]) (by simp [e11]) ⟨hrg.ar, hrg.hd, hC, hrg.rest.setFuse _, hrg.on⟩ rfl
  · have hbm := hrg.dk.sub _ _ hAm
    unfold refC at hbm
    have hsv := hv.scb
    rw [hRR]
    simp -implicitDefEqProofs [hr42, q_law36_RingCrashes_42, e8, e10, hbm, hsv.shp, hsv.good, hsv.comps, hsv.agg, hsv.size]
    refine w_law36_same (sz := n) hrg (hv.mono hrg.dk.sub) (by omega) (hMb hrg) fun E kE => ?_
    rw [show decide (t = t ∧ L = L) = true from decide_eq_true ⟨rfl, rfl⟩]
    simp -implicitDefEqProofs
    refine w_law36_works.call .nil rfl ?_
    simp -implicitDefEqProofs [outOf]
end Go.Proofs.Ytkmlndihdcplfaa

/- What comes in to the laws of ring. -/
namespace Go.Proofs.Ytkmlndihdcplfaa
open Go AVL
set_option linter.unusedVariables false
set_option linter.unusedSimpArgs false

theorem all_in {α : Type} {t : ATy} {f : α → AV} {P : α → Prop} (hf : ∀ v, t.has v → ∃ a, v = f a ∧ P a) : ∀ {l : List AV}, (∀ x ∈ l, t.has x) → ∃ m : List α, l = m.map f ∧ ∀ a ∈ m, P a
  | [], _ => ⟨[], rfl, by simp⟩
  | x :: l, h => by
    obtain ⟨a, rfl, ha⟩ := hf x (h x (by simp))
    obtain ⟨m, rfl, hm⟩ := all_in hf (l := l) fun y hy => h y (by simp [hy])
    exact ⟨a :: m, rfl, by simpa using ⟨ha, hm⟩⟩
theorem bV_in {v : AV} (h : (ATy.isl .u8).has v) : ∃ b, v = bV b ∧ Bytes b ∧ b.length ≤ maxLen := by
  unfold ATy.has at h
  obtain ⟨l, rfl, hl, w⟩ := h
  obtain ⟨b, rfl, hb⟩ := bytes_in w
  exact ⟨b, rfl, hb, by simpa using hl⟩
theorem ro_in {v : AV} (h : (ATy.agg [.int .i64, .isl .u8, .int .u8, .bool, .int .u8, .bool]).has v) : ∃ o : RgO, v = roA o ∧ (Bytes o.b ∧ o.to < 256 ∧ o.fuse < 256) := by
  unfold ATy.has at h
  obtain ⟨l, rfl, h⟩ := h
  simp only [ATy.hasL] at h
  obtain ⟨_, _, rfl, h1, _, _, rfl, h2, _, _, rfl, h3, _, _, rfl, h4, _, _, rfl, h5, _, _, rfl, h6, rfl⟩ := h
  obtain ⟨b, rfl, hb, _⟩ := bV_in h2
  unfold ATy.has at h1 h3 h4 h5 h6
  obtain ⟨k, rfl, _⟩ := h1
  obtain ⟨t, rfl, wt⟩ := h3
  obtain ⟨p, rfl⟩ := h4
  obtain ⟨f, rfl, wf⟩ := h5
  obtain ⟨e, rfl⟩ := h6
  obtain ⟨t, rfl, ht⟩ := u8_in wt
  obtain ⟨f, rfl, hf⟩ := u8_in wf
  exact ⟨⟨k, b, t, p, f, e⟩, rfl, hb, ht, hf⟩
end Go.Proofs.Ytkmlndihdcplfaa
