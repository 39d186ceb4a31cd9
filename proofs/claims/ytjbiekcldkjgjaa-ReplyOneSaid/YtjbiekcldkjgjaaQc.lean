/- The walks of the reference's Put and Bytes, and of Short. -/
import Derived.Test.YtjbiekcldkjgjaaQb
namespace Go.Proofs.Ytjbiekcldkjgjaa
open Go AVL
attribute [-simp] AV.isAgg aappI aapp alen abuild
set_option linter.unusedVariables false
set_option linter.unusedSimpArgs false
set_option maxRecDepth 4000

theorem ref25_Put_7 {r : Rp} (hr : r.ok) (hc : ck r = 0) {R : APost} {env : AEnv} {B : Heap} {g0 : Nat} {v : AV} {l : List Nat} (hl : l = [65, r.code.toNat, if r.done then 43 else 45]) (e1 : env 1 = .ptr g0 0) (e5 : env 5 = v)
    (hv : SlS T_uint8 .u8 v (ints l) (H0.set g0 (rpC r)) B) (hR : ∀ e env A, fpost a_ref25_Put.res (fun o A' => ∃ v, o = .ret (two (ck r) v) ∧ ((v = .nilS ∧ ints (encD r) = [] ∧ A' = H0) ∨ ∃ g, v = .own g 0 (ints (encD r)).length ∧ A' = H0.set g (.irow T_uint8 .u8 (ints (encD r))))) e env A → R e env A) :
    X Try.prog R (.region q_ref25_Put_7) (.thn ((ACode.region q_ref25_Put_8).seq ((ACode.region q_ref25_Put_9).seq ((ACode.region q_ref25_Put_10).seq ((ACode.region q_ref25_Put_11).seq (((ACode.region q_ref25_Put_12).seq (ACode.block 0 (ACode.loop q_ref25_Put_L16))).seq ((ACode.region q_ref25_Put_16).seq ACode.ret)))))) .done) env B := by
  obtain ⟨c1, c2, c3, c4, c5, c6⟩ := ck0 hc
  obtain ⟨n, hn⟩ : ∃ n : Nat, r.n = n := ⟨r.n.toNat, by omega⟩
  have w1 : IntKind.u64.wrap (n : Int) = (n : Int) := wrap_u64 (by omega)
  have w2 : IntKind.u64.wrap (r.data.length : Int) = ((r.data.length : Nat) : Int) := wrap_u64 (by omega)
  have w4 : IntKind.u8.wrap (r.list.length : Int) = ((r.list.length : Nat) : Int) := wrap_u8 (by omega)
  have hal := hr.addr.2
  have h3 : l.length = 3 := by rw [hl]; rfl
  have get : ∀ {v l C}, SlS T_uint8 .u8 v l (H0.set g0 (rpC r)) C → C g0 = some (.var 47 [.int .i64 r.code, .iarr .u8 32 (ints r.addr), .isl .u8 (ints r.data), .dsl 32 (r.list.map adrV), .int .i64 (n : Int), .bool r.done]) := fun h => by
    rw [← hn]; exact h.sub _ _ (by simp [rpC, adrV, il])
  have gB := get hv
  simp -implicitDefEqProofs [q_ref25_Put_7, e1, e5, gB, w1]
  refine (w_ref01_Put 6 n (by omega) (by omega)).call (.cons (.refl _) rfl (.cons (.refl _) rfl .nil)) fun v1 B1 h1 => ?_
  simp -implicitDefEqProofs [e5, h1.agg]
  refine hv.appS h1.sub (h1.src (Sub_refl _)) (by simp [h3]) fun v2 B2 h2 hag2 => ?_
  have g2 := get h2
  simp -implicitDefEqProofs [e1, g2, hag2, q_ref25_Put_8]
  refine w_ref25_addr (l := l ++ le 6 n) (a := r.addr) (by simpa using h2) hr.addr (by simp [h3]) fun v3 B3 h3' => ?_
  have g3 := get h3'
  simp -implicitDefEqProofs [e1, g3, h3'.agg, q_ref25_Put_9, w2]
  refine (w_ref01_Put 2 r.data.length (by omega) (by omega)).call (.cons (.refl _) rfl (.cons (.refl _) rfl .nil)) fun v4 B4 h4 => ?_
  simp -implicitDefEqProofs [h4.agg]
  refine h3'.appS h4.sub (h4.src (Sub_refl _)) (by simp [h3, hal]) fun v5 B5 h5 hag5 => ?_
  have g5 := get h5
  simp -implicitDefEqProofs [e1, g5, hag5, q_ref25_Put_10]
  refine h5.appS (ys := ints r.data) (Sub_refl _) (fun Q hQ => ⟨rfl, hQ⟩) (by simp [h3, hal]; omega) fun v6 B6 h6 hag6 => ?_
  have g6 := get h6
  simp -implicitDefEqProofs [e1, g6, hag6, q_ref25_Put_11, w4]
  intro g7 hg7
  refine h6.app (ys := [(r.list.length : Int)]) (by simp) (sub_none hg7) hg7 (by simp [h3, hal]; omega) fun v8 B8 h8 hag8 => ?_
  have g8 := get h8
  simp -implicitDefEqProofs [e1, g8, hag8, q_ref25_Put_12]
  obtain ⟨p, hp⟩ : ∃ p, p = l ++ le 6 n ++ r.addr ++ le 2 r.data.length ++ r.data ++ [r.list.length] := ⟨_, rfl⟩
  have hpl : p.length = 44 + r.data.length := by rw [hp]; simp [hr.addr.2, h3]; omega
  have h8' : SlS T_uint8 .u8 v8 (ints p) (H0.set g0 (rpC r)) B8 := by rw [hp]; simpa [ints] using h8
  refine X_lp (fun (i : Nat) env C => i ≤ r.list.length ∧ SlS T_uint8 .u8 (env 5) (ints (p ++ (r.list.take i).flatten)) (H0.set g0 (rpC r)) C ∧ env 1 = .ptr g0 0 ∧ env 6 = .int .i64 i) (fun i => r.list.length - i) 0
    ⟨by omega, by simpa using h8', by simp [e1], by simp⟩ ?_
  rintro i env C ⟨hi, hv, e1, e6⟩
  obtain ⟨u, e5⟩ : ∃ u, env 5 = u := ⟨_, rfl⟩
  rw [e5] at hv
  have gC := get hv
  simp -implicitDefEqProofs [q_ref25_Put_L16, q_ref25_Put_13, q_ref25_Put_16, e1, e5, e6, gC]
  refine ⟨fun hil => ?_, fun hil => ?_⟩
  · have hai := hr.list _ (List.getElem_mem hil)
    have hadr : adrV r.list[i] = .iarr .u8 32 (ints r.list[i]) := rfl
    simp -implicitDefEqProofs [q_ref25_Put_14, q_ref25_Put_15, e1, e5, e6, gC, hil, hadr, hv.agg]
    have hf : p ++ (r.list.take (i + 1)).flatten = (p ++ (r.list.take i).flatten) ++ r.list[i] := by rw [List.take_succ_eq_append_getElem hil, List.flatten_append]; simp
    have hfl := flat_len hr.list i
    refine w_ref25_addr (l := p ++ (r.list.take i).flatten) (a := r.list[i]) hv hai (by simp only [List.length_append]; omega) fun v' C' h' => ?_
    simp -implicitDefEqProofs [e1, e6]
    refine lp_next (i + 1) ⟨by omega, ?_, by simp [e1], by simp [wrap_i64 (show -9223372036854775808 ≤ (i : Int) + 1 ∧ (i : Int) + 1 < 9223372036854775808 by omega)]⟩ (by omega)
    rw [hf]; simpa using h'
  · have hie : i = r.list.length := by omega
    refine hR _ _ _ ?_
    rw [hie, List.take_length] at hv
    have he : p ++ r.list.flatten = encD r := by
      rw [encD, if_pos hc, enc, hp, hl, hn, Nat.mod_eq_of_lt (show r.code.toNat < 256 by omega), Nat.mod_eq_of_lt (show r.list.length < 256 by omega)]; simp
    rw [he] at hv
    have := SlS_finP (F := two (ck r)) (hv.base (H0_sub _))
    simpa -implicitDefEqProofs [fpost, a_ref25_Put, outOf, hc, two, hv.agg] using this
theorem w_ref25_Put {r : Rp} (hr : r.ok) : MakesP Try.prog F_ref25_Put [rpV r] (two (ck r)) T_uint8 .u8 (ints (encD r)) := by
  refine i_ref25_Put (by simp) fun R hR => ?_
  unfold rpV rpW
  simp -implicitDefEqProofs [a_ref25_Put, q_ref25_Put_0, q_ref25_Put_1, q_ref25_Put_2, adrV, il]
  intro g0
  refine (w_ref25_Check r).call (.cons (.refl _) rfl .nil) rfl ?_
  by_cases hc : ck r = 0
  · obtain ⟨c1, c2, c3, c4, c5, c6⟩ := ck0 hc
    obtain ⟨c, hcode⟩ : ∃ c : Nat, r.code = c := ⟨r.code.toNat, by omega⟩
    have w3 : IntKind.u8.wrap (c : Int) = (c : Int) := wrap_u8 (by omega)
    simp -implicitDefEqProofs [q_ref25_Put_2, q_ref25_Put_4, q_ref25_Put_5, q_ref25_Put_6, hc, w3, hcode]
    intro g1 n1 n2
    have main := fun env B v => ref25_Put_7 hr hc (R := R) (g0 := g0) (env := env) (B := B) (v := v) rfl
    simp only [X_region, rpC, adrV, il, hcode] at main
    have m1 : ¬ g0 = g1 := fun e => n1 e.symm
    cases hd : r.done
    · rw [hd] at main
      simp -implicitDefEqProofs [n1, m1]
      refine main _ _ (.own g1 0 3) ?_ ?_ ?_ hR
      · simp
      · simp
      · show SlS T_uint8 .u8 (.own g1 0 3) [65, (c : Int), 45] (H0.set g0 _) _
        refine SlS.one (l := [65, (c : Int), 45]) (n := 3) ?_ rfl
        simp [n1, m1]
    · rw [hd] at main
      simp -implicitDefEqProofs [n1, m1, w3]
      intro g2 k1 k2 k3 k4
      refine main _ _ (.own g2 0 3) ?_ ?_ ?_ hR
      · simp
      · simp
      · show SlS T_uint8 .u8 (.own g2 0 3) [65, (c : Int), 43] (H0.set g0 _) _
        refine (SlS.one (e := T_uint8) (l := [65, (c : Int), 43]) (n := 3) ?_ rfl).base (sub_none ?_)
        · simp [k1, k2, k3, k4]
        · simp [n1, m1]
  · simp -implicitDefEqProofs [q_ref25_Put_3, hc]
    refine hR _ _ _ ?_
    simp -implicitDefEqProofs [fpost, a_ref25_Put, outOf, encD, hc, two]
end Go.Proofs.Ytjbiekcldkjgjaa
