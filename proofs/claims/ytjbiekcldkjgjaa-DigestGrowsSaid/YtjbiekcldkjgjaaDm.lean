/- The walk of the reference's Sum. -/
import Derived.Test.YtjbiekcldkjgjaaDk
namespace Go.Proofs.Ytjbiekcldkjgjaa
open Go AVL
attribute [-simp] AV.isAgg aappI aapp alen
set_option linter.unusedVariables false
set_option linter.unusedSimpArgs false
set_option maxRecDepth 8000

theorem mixAll_succ (n : Nat) (s p : List Nat) : mixAll s (n + 1) p = mixB (mixAll s n p) ((p.drop (64 * n)).take 64) := by
  rw [mixAll_add]; rfl
theorem outB_length (s : List Nat) : (outB s).length = 32 := by simp [outB]
theorem outB_get (s : List Nat) (i : Nat) (h : i < (outB s).length) : (outB s)[i] = s.getD (i / 4) 0 / 2 ^ (24 - 8 * (i % 4)) % 256 := by simp [outB]
theorem byte32_of {n m : Nat} (hm : m ≤ 32) {k : Int} (hk : k = (m : Nat)) : IntKind.u8.wrap (shrI .u32 (n : Int) k) = ((n / 2 ^ m % 256 : Nat) : Int) := by
  rw [shr32 hm hk, wrap_u8m]
  exact (Int.natCast_emod (n / 2 ^ m) 256).symm
def z32 : List Nat := List.replicate 32 0
def arrB (l : List Nat) : Cont := .var 39 [.iarr .u8 32 (ints l)]
theorem sum_L13 {s : List Nat} (h8 : s.length = 8) {R : APost} {k : Kt} {env : AEnv} {A : Heap} {g2 g4 g7 : Nat} (e2 : env 2 = .ptr g2 0) (e4 : env 4 = .ptr g4 0) (e7 : env 7 = .ptr g7 0) (e8 : env 8 = .int .i64 0)
    (f2 : A g2 = some (arrB z32)) (f4 : A g4 = some (arr8 s)) (f7 : A g7 = some (arrB z32)) (n2 : g2 ≠ g7) (n4 : g4 ≠ g7)
    (hk : ∀ env' B, env' 2 = .ptr g2 0 → env' 7 = .ptr g7 0 → B g2 = some (arrB z32) → B g7 = some (arrB (outB s)) → XE Try.prog R (.exit 2) k env' B) : X Try.prog R (.loop q_ref03_Sum_L13) k env A := by
  have hol := outB_length s
  refine X_lp (fun (i : Nat) env B => i ≤ 32 ∧ env 2 = .ptr g2 0 ∧ env 4 = .ptr g4 0 ∧ env 7 = .ptr g7 0 ∧ env 8 = .int .i64 i ∧ B g2 = some (arrB z32) ∧ B g4 = some (arr8 s) ∧ B g7 = some (arrB ((outB s).take i ++ List.replicate (32 - i) 0))) (fun i => 32 - i) 0
    ⟨by omega, e2, e4, e7, e8, f2, f4, by rw [List.take_zero, List.nil_append]; exact f7⟩ ?_
  rintro i env B ⟨hi, e2, e4, e7, e8, f2, f4, f7⟩
  simp -implicitDefEqProofs [q_ref03_Sum_L13, q_ref03_Sum_10, e2, e4, e7, e8]
  refine ⟨fun hil => ?_, fun hil => ?_⟩
  · have hio : i < (outB s).length := by omega
    have q1 : IntKind.i64.wrap ((i : Int) / 4) = ((i / 4 : Nat) : Int) := by rw [wrap_i64 (by omega)]; omega
    have q2 : (i : Int).tmod 4 = ((i % 4 : Nat) : Int) := by rw [Int.tmod_eq_emod_of_nonneg (by omega)]; omega
    obtain ⟨d, hd⟩ : ∃ d, i / 4 = d := ⟨_, rfl⟩
    obtain ⟨m, hm⟩ : ∃ m, i % 4 = m := ⟨_, rfl⟩
    have hd8 : d < 8 := by omega
    have hm4 : m < 4 := by omega
    have hbyte := outB_get s i hio
    rw [hd, hm] at hbyte
    rw [hd] at q1; rw [hm] at q2
    have w3 : IntKind.i64.wrap (8 * (m : Int)) = 8 * (m : Int) := wrap_i64 (by omega)
    have w4 : IntKind.i64.wrap (24 - 8 * (m : Int)) = ((24 - 8 * m : Nat) : Int) := by rw [wrap_i64 (by omega)]; omega
    have w5 : IntKind.u64.wrap ((24 - 8 * m : Nat) : Int) = ((24 - 8 * m : Nat) : Int) := wrap_u64 (by omega)
    obtain ⟨x, hx⟩ : ∃ x, s.getD d 0 = x := ⟨_, rfl⟩
    have hsd : s[d]?.getD 0 = x := by rw [← hx, List.getD_eq_getElem?_getD]
    have w6 := byte32_of (n := x) (m := 24 - 8 * m) (by omega) (k := ((24 - 8 * m : Nat) : Int)) rfl
    rw [hx] at hbyte
    obtain ⟨y, hy⟩ : ∃ y, x / 2 ^ (24 - 8 * m) % 256 = y := ⟨_, rfl⟩
    rw [hy] at w6 hbyte
    obtain ⟨sh, hsh⟩ : ∃ t, 24 - 8 * m = t := ⟨_, rfl⟩
    rw [hsh] at w4 w5 w6
    have hset := fill_setN hio (show (outB s).length ≤ 32 by omega)
    rw [hbyte] at hset
    obtain ⟨L, hL⟩ : ∃ L, (outB s).take i ++ List.replicate (32 - i) 0 = L := ⟨_, rfl⟩
    have hLl : L.length = 32 := by rw [← hL]; simp [hol]; omega
    rw [hL] at f7 hset
    have c8 : (d : Int) < 8 := by omega
    have c32 : (i : Int) < 32 := by omega
    have wi : IntKind.i64.wrap ((i : Int) + 1) = (i : Int) + 1 := wrap_i64 (by omega)
    unfold arr8 at f4
    unfold arrB at f7
    simp -implicitDefEqProofs [q_ref03_Sum_11, q_ref03_Sum_12, e2, e4, e7, e8, f4, f7, q1, q2, w3, w4, w5, w6, hsd, h8, c8, c32, hLl, hset, wi, hil]
    refine lp_next (i + 1) ⟨by omega, by simp [e2], by simp [e4], by simp [e7], by simp, by simp [n2, f2], by simp [n4, f4, arr8], ?_⟩ (by omega)
    rw [show 32 - (i + 1) = 31 - i by omega]
    simp [arrB]
  · have hie : i = 32 := by omega
    subst hie
    rw [List.take_of_length_le (by omega), show 32 - 32 = 0 by rfl, List.replicate_zero, List.append_nil] at f7
    refine hk _ _ ?_ ?_ f2 f7
    · simp [e2]
    · simp [e7]
theorem vw_il' {A : Heap} {g n : Nat} {t : TypeId} {k : IntKind} {l : List Nat} (h : A g = some (.irow t k (ints l))) (hn : n = l.length) : Vw A (.own g 0 n) (.isl k (ints l)) := by
  subst hn
  have := Vw.own (A := A) (i := 0) (n := l.length) h (by simp)
  rw [List.drop_zero] at this
  have e : (ints l).take l.length = ints l := List.take_of_length_le (by simp)
  rwa [e] at this
theorem vw_k {A : Heap} {g : Nat} {t : TypeId} {k : IntKind} {l : List Nat} (h : A g = some (.irow t k (ints l))) (hn : l.length = 64) : Vw A (.own g 0 64) (.isl k (ints l)) := vw_il' h hn.symm
theorem dig_eq (b : List Nat) : outB (mixAll H256 ((b.length + 72) / 64) (padT b)) = dig b := rfl
theorem w_ref03_Sum {b : List Nat} (hb : byts b) (hl : b.length ≤ 100000) : Gives Try.prog F_ref03_Sum [.isl .u8 (ints b)] (.iarr .u8 32 (ints (dig b))) := by
  refine v_ref03_Sum (by simp) ?_
  simp -implicitDefEqProofs [a_ref03_Sum, q_ref03_Sum_0, q_ref03_Sum_1, -List.reduceReplicate]
  intro g2
  refine w_ref03_table.call .nil rfl fun gk hgk => ?_
  simp -implicitDefEqProofs [q_ref03_Sum_2, -List.reduceReplicate]
  intro g4 a1 a2 a3 a4
  simp -implicitDefEqProofs [q_ref03_Sum_3, -List.reduceReplicate]
  refine (w_ref03_padded hl).call (.cons (.refl _) rfl .nil) fun v B hB => ?_
  have k1 : gk ≠ g2 := by rintro rfl; simp at hgk
  have f2 := hB.sub g2 (arrB z32) (by simp [a4, Ne.symm k1]; rfl)
  have fk := hB.sub gk (.irow 137 .u32 (ints K64)) (by simp [a2])
  have f4 := hB.sub g4 (arr8 H256) (by simp [arr8]; rfl)
  have hpl := padT_length b
  rcases hB.own with ⟨rfl, hn⟩ | ⟨gv, rfl, hgv, fv⟩
  · have := congrArg List.length hn
    rw [ints_length, hpl] at this
    simp at this; omega
  have v4 : gv ≠ g4 := by rintro rfl; rw [f4] at fv; cases fv
  have n2 : g2 ≠ g4 := fun e => a4 e
  have k4 : gk ≠ g4 := fun e => a2 e
  rw [ints_length]
  obtain ⟨p, hp⟩ : ∃ p, padT b = p := ⟨_, rfl⟩
  obtain ⟨nb, hnb⟩ : ∃ n, (b.length + 72) / 64 = n := ⟨_, rfl⟩
  rw [hnb] at hpl
  rw [hp] at hpl fv
  have hpb : byts p := hp ▸ padT_byts hb
  have hdig : outB (mixAll H256 nb p) = dig b := by rw [← dig_eq, hnb, hp]
  have hm8 : ∀ i, (mixAll H256 i p).length = 8 := fun i => mixAll_length i p rfl
  have hmw : ∀ i, Words (mixAll H256 i p) := fun i => mixAll_words i p H256_words
  rw [hp]
  simp -implicitDefEqProofs [q_ref03_Sum_4, -List.reduceReplicate]
  refine X_lp (fun (i : Nat) env B => i ≤ nb ∧ env 2 = .ptr g2 0 ∧ env 3 = .own gk 0 64 ∧ env 4 = .ptr g4 0 ∧ env 5 = .own gv 0 p.length ∧ env 6 = .int .i64 (64 * i : Nat) ∧ B g2 = some (arrB z32) ∧ B gk = some (.irow 137 .u32 (ints K64)) ∧ B g4 = some (arr8 (mixAll H256 i p)) ∧ B gv = some (.irow T_uint8 .u8 (ints p))) (fun i => nb - i) 0
    ⟨by omega, by simp, by simp, by simp, by simp, by simp, f2, fk, f4, fv⟩ ?_
  clear f2 fk f4 fv hB
  rintro i env B ⟨hi, e2, e3, e4, e5, e6, f2, fk, f4, fv⟩
  by_cases hin : i < nb
  · have c1 : 64 * (i : Int) < p.length := by omega
    have wi : IntKind.i64.wrap (64 * (i : Int) + 64) = ((64 * (i + 1) : Nat) : Int) := by rw [wrap_i64 (by omega)]; omega
    have hmm := hm8 i
    have f4' := f4
    unfold arr8 at f4'
    obtain ⟨blk, hblk⟩ : ∃ x, (p.drop (64 * i)).take 64 = x := ⟨_, rfl⟩
    have hstep := mixAll_succ i H256 p
    rw [hblk] at hstep
    have hcw := w_ref03_words (t := p) (at' := 64 * i) (b := blk) hpb (by omega) hblk.symm (by omega)
    have hcast : ((64 * i : Nat) : Int) = 64 * (i : Int) := by omega
    rw [hcast] at hcw
    simp -implicitDefEqProofs [q_ref03_Sum_L8, q_ref03_Sum_5, q_ref03_Sum_6, q_ref03_Sum_7, e2, e3, e4, e5, e6, c1, f4', hmm, wi, -List.reduceReplicate]
    refine hcw.call (.cons (vw_il' fv rfl) rfl (.cons (.refl _) rfl .nil)) rfl ?_
    simp -implicitDefEqProofs [Sub_refl, -List.reduceReplicate]
    have hbb : byts blk := hblk ▸ byts_take (byts_drop hpb _) _
    refine (w_ref03_mixed (hmw i) (hm8 i) (wsN_words hbb 48) (wsN48_length blk)).call (.cons (.refl _) rfl (.cons (vw_k fk K64_length) rfl (.cons (.refl _) rfl .nil))) rfl ?_
    have hlen8 : (sumW (mixAll H256 i p) (rndN (mixAll H256 i p) (wsN blk 48) 64)).length = 8 := mixB_length _ _
    simp -implicitDefEqProofs [e4, e6, f4', hmm, wi, hlen8, -List.reduceReplicate]
    refine lp_next (i + 1) ⟨by omega, by simp [e2], by simp [e3], by simp [e4], by simp [e5], by simp, by simp [n2, f2], by simp [k4, fk], ?_, by simp [v4, fv]⟩ (by omega)
    rw [hstep]
    simp [arr8]
    rfl
  · have hie : i = nb := by omega
    subst hie
    have c1 : ¬ 64 * (i : Int) < p.length := by omega
    simp -implicitDefEqProofs [q_ref03_Sum_L8, q_ref03_Sum_5, q_ref03_Sum_8, q_ref03_Sum_9, e2, e3, e4, e5, e6, c1, -List.reduceReplicate]
    intro g7 h7
    have y2 := fresh_ne f2 h7
    have y4 := fresh_ne f4 h7
    refine sum_L13 (hm8 i) (g2 := g2) (g4 := g4) (g7 := g7) ?_ ?_ ?_ ?_ ?_ ?_ ?_ y2 y4 fun env' B' e2 e7 f2 f7 => ?_
    · simp [e2]
    · simp [e4]
    · simp
    · simp
    · simp [y2, f2]
    · simp [y4, f4]
    · simp [arrB, z32, ints]
    rw [hdig] at f7
    have hdl : (dig b).length = 32 := outB_length _
    unfold arrB z32 at f2
    unfold arrB at f7
    simp -implicitDefEqProofs [q_ref03_Sum_13, e2, e7, f2, f7, hdl, outOf, -List.reduceReplicate]
end Go.Proofs.Ytjbiekcldkjgjaa
