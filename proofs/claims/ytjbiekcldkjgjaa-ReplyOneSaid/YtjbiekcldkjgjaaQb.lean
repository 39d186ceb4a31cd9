/- The walks of the answers' Check and Put, the program's and the reference's. -/
import Derived.Test.YtjbiekcldkjgjaaQa
namespace Go.Proofs.Ytjbiekcldkjgjaa
open Go AVL
attribute [-simp] AV.isAgg aappI aapp alen abuild
set_option linter.unusedVariables false
set_option linter.unusedSimpArgs false
set_option maxRecDepth 4000

/-- An answer. -/
structure Rp where
  code : Int
  addr : List Nat
  data : List Nat
  list : List (List Nat)
  n : Int
  done : Bool
structure Rp.ok (r : Rp) : Prop where
  code : -9223372036854775808 ≤ r.code ∧ r.code < 9223372036854775808
  n : -9223372036854775808 ≤ r.n ∧ r.n < 9223372036854775808
  addr : Adr r.addr
  data : Bytes r.data
  list : ∀ a ∈ r.list, Adr a
  dlen : r.data.length ≤ 17000
  llen : r.list.length ≤ 300
/-- With its slices as they are seen. -/
def rpW (r : Rp) (d l : AV) : AV := .agg [.int .i64 r.code, adrV r.addr, d, l, .int .i64 r.n, .bool r.done]
def rpV (r : Rp) : AV := rpW r (il r.data) (.dsl 32 (r.list.map adrV))
/-- What is wrong with it. -/
def ck (r : Rp) : Int :=
  if r.code < 0 ∨ 17 < r.code ∨ r.n < 0 ∨ 2199023255552 < r.n then 2
  else if 16384 < r.data.length then 15
  else if 255 < r.list.length then 7
  else 0
/-- Its bytes. -/
def enc (r : Rp) : List Nat :=
  [65, r.code.toNat % 256, if r.done then 43 else 45] ++ le 6 r.n.toNat ++ r.addr ++ le 2 r.data.length ++ r.data ++ [r.list.length % 256] ++ r.list.flatten
theorem w_reply_Check (r : Rp) : Gives Try.prog F_reply_Check [rpV r] (.int .i64 (ck r)) := by
  refine v_reply_Check (by simp) ?_
  unfold ck rpV rpW
  by_cases h1 : r.code < 0
  · simp -implicitDefEqProofs [a_reply_Check, q_reply_Check_0, q_reply_Check_1, q_reply_Check_2, adrV, il, h1]
  by_cases h2 : 17 < r.code
  · simp -implicitDefEqProofs [a_reply_Check, q_reply_Check_0, q_reply_Check_1, q_reply_Check_2, adrV, il, h1, h2]
  by_cases h3 : r.n < 0
  · simp -implicitDefEqProofs [a_reply_Check, q_reply_Check_0, q_reply_Check_1, q_reply_Check_2, adrV, il, h1, h2, h3]
  by_cases h4 : 2199023255552 < r.n
  · simp -implicitDefEqProofs [a_reply_Check, q_reply_Check_0, q_reply_Check_1, q_reply_Check_2, adrV, il, h1, h2, h3, h4]
  by_cases h5 : 16384 < r.data.length
  · have h5' : (16384 : Int) < r.data.length := by omega
    simp -implicitDefEqProofs [a_reply_Check, q_reply_Check_0, q_reply_Check_1, q_reply_Check_3, q_reply_Check_4, adrV, il, h1, h2, h3, h4, h5, h5']
  have h5' : ¬ (16384 : Int) < r.data.length := by omega
  by_cases h6 : 255 < r.list.length
  · have h6' : (255 : Int) < r.list.length := by omega
    simp -implicitDefEqProofs [a_reply_Check, q_reply_Check_0, q_reply_Check_1, q_reply_Check_3, q_reply_Check_5, q_reply_Check_6, adrV, il, h1, h2, h3, h4, h5, h5', h6, h6']
  · have h6' : ¬ (255 : Int) < r.list.length := by omega
    simp -implicitDefEqProofs [a_reply_Check, q_reply_Check_0, q_reply_Check_1, q_reply_Check_3, q_reply_Check_5, q_reply_Check_7, adrV, il, h1, h2, h3, h4, h5, h5', h6, h6']
theorem w_ref25_Check (r : Rp) : Gives Try.prog F_ref25_Check [rpV r] (.int .i64 (ck r)) := by
  refine v_ref25_Check (by simp) ?_
  unfold ck rpV rpW
  by_cases h1 : r.code < 0
  · simp -implicitDefEqProofs [a_ref25_Check, q_ref25_Check_0, q_ref25_Check_1, q_ref25_Check_2, adrV, il, h1]
  by_cases h2 : 17 < r.code
  · simp -implicitDefEqProofs [a_ref25_Check, q_ref25_Check_0, q_ref25_Check_1, q_ref25_Check_2, adrV, il, h1, h2]
  by_cases h3 : r.n < 0
  · simp -implicitDefEqProofs [a_ref25_Check, q_ref25_Check_0, q_ref25_Check_1, q_ref25_Check_2, adrV, il, h1, h2, h3]
  by_cases h4 : 2199023255552 < r.n
  · simp -implicitDefEqProofs [a_ref25_Check, q_ref25_Check_0, q_ref25_Check_1, q_ref25_Check_2, adrV, il, h1, h2, h3, h4]
  by_cases h5 : 16384 < r.data.length
  · have h5' : (16384 : Int) < r.data.length := by omega
    simp -implicitDefEqProofs [a_ref25_Check, q_ref25_Check_0, q_ref25_Check_1, q_ref25_Check_3, q_ref25_Check_4, adrV, il, h1, h2, h3, h4, h5, h5']
  have h5' : ¬ (16384 : Int) < r.data.length := by omega
  by_cases h6 : 255 < r.list.length
  · have h6' : (255 : Int) < r.list.length := by omega
    simp -implicitDefEqProofs [a_ref25_Check, q_ref25_Check_0, q_ref25_Check_1, q_ref25_Check_3, q_ref25_Check_5, q_ref25_Check_6, adrV, il, h1, h2, h3, h4, h5, h5', h6, h6']
  · have h6' : ¬ (255 : Int) < r.list.length := by omega
    simp -implicitDefEqProofs [a_ref25_Check, q_ref25_Check_0, q_ref25_Check_1, q_ref25_Check_3, q_ref25_Check_5, q_ref25_Check_7, adrV, il, h1, h2, h3, h4, h5, h5', h6, h6']
theorem w_law25_light {r : Rp} (h : r.ok) : Gives Try.prog F_law25_light [rpV r] (.bool true) := by
  refine v_law25_light (by simp) ?_
  have h1 : (r.data.length : Int) ≤ 17000 := by have := h.dlen; omega
  have h2 : (r.list.length : Int) ≤ 300 := by have := h.llen; omega
  simp -implicitDefEqProofs [a_law25_light, q_law25_light_0, q_law25_light_1, rpV, rpW, adrV, il, h1, h2]
theorem w_law25_light_no {r : Rp} (h : 17000 < r.data.length ∨ 300 < r.list.length) : Gives Try.prog F_law25_light [rpV r] (.bool false) := by
  refine v_law25_light (by simp) ?_
  by_cases h1 : (r.data.length : Int) ≤ 17000
  · have h2 : ¬ (r.list.length : Int) ≤ 300 := by omega
    simp -implicitDefEqProofs [a_law25_light, q_law25_light_0, q_law25_light_1, rpV, rpW, adrV, il, h1, h2]
  · simp -implicitDefEqProofs [a_law25_light, q_law25_light_0, q_law25_light_1, rpV, rpW, adrV, il, h1]
def encD (r : Rp) : List Nat := if ck r = 0 then enc r else []
def two (c : Int) (v : AV) : AV := .tuple [v, .int .i64 c]
theorem ck0 {r : Rp} (h : ck r = 0) : 0 ≤ r.code ∧ r.code ≤ 17 ∧ 0 ≤ r.n ∧ r.n ≤ 2199023255552 ∧ r.data.length ≤ 16384 ∧ r.list.length ≤ 255 := by
  unfold ck at h
  split at h
  · cases h
  · split at h
    · cases h
    · split at h
      · cases h
      · omega
theorem vw_il {A : Heap} {g n : Nat} {t : TypeId} {l : List Nat} (h : A g = some (.irow t .u8 (ints l))) (hn : n = l.length) : Vw A (.own g 0 n) (il l) := by
  subst hn
  have := Vw.own (A := A) (i := 0) (n := l.length) h (by simp)
  rw [List.drop_zero] at this
  have e : (ints l).take l.length = ints l := List.take_of_length_le (by simp)
  rwa [e] at this
theorem vw_asl {A : Heap} {g o : Nat} {t : TypeId} {l : List AV} {a : List Nat} (h : A g = some (.var t l)) (hg : getI l o 32 = some (.u8, ints a)) (ha : a.length = 32) : Vw A (.asl g o 32 0 32) (il a) := by
  have := Vw.asl (A := A) (i := 0) (n := 32) h hg (by simpa using ha)
  rw [List.drop_zero] at this
  have e : (ints a).take 32 = ints a := List.take_of_length_le (by simp [ha])
  rwa [e] at this
def rpC (r : Rp) : Cont := .var 47 [.int .i64 r.code, adrV r.addr, il r.data, .dsl 32 (r.list.map adrV), .int .i64 r.n, .bool r.done]
theorem join6 {r : Rp} (hr : r.ok) {A : Heap} {g0 g1 g2 g3 g4 g5 : Nat} {c n b : Nat} {K Kp : AV → Heap → Prop} (h5 : A g5 = some (.row 34 1 [.own g3 0 3, .own g1 0 6, .asl g0 1 32 0 32, .own g2 0 2, .isl .u8 (ints r.data), .own g4 0 1]))
    (h3 : A g3 = some (.irow 5 .u8 [65, (c : Int), (b : Int)])) (h1 : A g1 = some (.irow T_uint8 .u8 (ints (le 6 n)))) (h0 : A g0 = some (rpC r)) (h2 : A g2 = some (.irow T_uint8 .u8 (ints (le 2 r.data.length)))) (h4 : A g4 = some (.irow 5 .u8 [(r.list.length : Int)]))
    (hk : ∀ v B, SlS T_uint8 .u8 v (ints ([65, c, b] ++ le 6 n ++ r.addr ++ le 2 r.data.length ++ r.data ++ [r.list.length])) (H0.set g0 (rpC r)) B → K v B) : SimX Try.prog F_reply_join [.own g5 0 6] A (outK K Kp) := by
  have hal := hr.addr.2
  have hdl := hr.dlen
  refine (w_reply_join [[65, c, b], le 6 n, r.addr, le 2 r.data.length, r.data, [r.list.length]] ?_ ?_).call (.cons (.ownR h5 (by simp)
    (.cons (vw_il (l := [65, c, b]) h3 rfl) (.cons (vw_il h1 (by simp)) (.cons (vw_asl h0 rfl hal) (.cons (vw_il h2 (by simp)) (.cons (.refl _) (.cons (vw_il (l := [r.list.length]) h4 rfl) .nil))))))) rfl .nil) fun v B hB => ?_
  · simp [hal]; omega
  · simp
  have hB' := hB.base (sub_set (H0_sub _) h0)
  refine hk v B ?_
  simpa using hB'
theorem reply_Put_7 {r : Rp} (hr : r.ok) (hc : ck r = 0) {R : APost} {k : Kt} {env : AEnv} {g0 : Nat} {b : Nat} (hb : b = if r.done then 43 else 45) (e1 : env 1 = .ptr g0 0) (e5 : env 5 = .int .u8 b)
    (hk : ∀ env' v B, env' 1 = .ptr g0 0 → env' 6 = v → SlS T_uint8 .u8 v (ints ([65, r.code.toNat, if r.done then 43 else 45] ++ le 6 r.n.toNat ++ r.addr ++ le 2 r.data.length ++ r.data ++ [r.list.length])) (H0.set g0 (rpC r)) B → XE Try.prog R .normal k env' B) :
    X Try.prog R (.regionD q_reply_Put_7) k env (H0.set g0 (rpC r)) := by
  obtain ⟨c1, c2, c3, c4, c5, c6⟩ := ck0 hc
  obtain ⟨n, hn⟩ : ∃ n : Nat, r.n = n := ⟨r.n.toNat, by omega⟩
  obtain ⟨c, hcode⟩ : ∃ c : Nat, r.code = c := ⟨r.code.toNat, by omega⟩
  have w1 : IntKind.u64.wrap (n : Int) = (n : Int) := wrap_u64 (by omega)
  have w2 : IntKind.u64.wrap (r.data.length : Int) = ((r.data.length : Nat) : Int) := wrap_u64 (by omega)
  have w3 : IntKind.u8.wrap (c : Int) = (c : Int) := wrap_u8 (by omega)
  have w4 : IntKind.u8.wrap (r.list.length : Int) = ((r.list.length : Nat) : Int) := wrap_u8 (by omega)
  have hal := hr.addr.2
  unfold rpC at hk ⊢
  simp only [adrV, il] at hk ⊢
  simp -implicitDefEqProofs [q_reply_Put_7, hc, w1, w2, w3, w4, hn, hcode, e1, e5]
  refine (w_word_Put (n := n) (m := 6) (by omega) (by omega)).call (.cons (.refl _) rfl (.cons (.refl _) rfl .nil)) rfl fun g1 hg1 => ?_
  have hs1 := sub_none (c := .irow T_uint8 .u8 (ints (le 6 n))) hg1
  simp -implicitDefEqProofs [hs1, w4, w3, e1, e5]
  refine (w_word_Put (n := r.data.length) (m := 2) (by omega) (by omega)).call (.cons (.refl _) rfl (.cons (.refl _) rfl .nil)) rfl fun g2 hg2 => ?_
  have hs2 := sub_none (c := .irow T_uint8 .u8 (ints (le 2 r.data.length))) hg2
  simp -implicitDefEqProofs [hs2, w4, w3, e1, e5]
  simp only [set_none, H0_app, and_true, ne_eq] at hg1 hg2
  obtain ⟨x1, x2⟩ := hg1
  obtain ⟨x3, x4, x5, x6⟩ := hg2
  intro g3 a1 a2 a3 a4 a5 a6 g4 b1 b2 b3 b4 b5 b6 b7 b8 g5 d1 d2 d3 d4 d5 d6 d7 d8 d9 d10
  refine join6 hr (g0 := g0) (g1 := g1) (g2 := g2) (g3 := g3) (g4 := g4) (c := c) (n := n) (b := b) set_eq' ?_ ?_ ?_ ?_ ?_ fun v B hB => ?_
  · simp [b1, b2, d3, d4]
  · simp [x3, x4, a3, a4, b5, b6, d7, d8]
  · simp [x1, x2, x5, x6, a5, a6, b7, b8, d9, d10, rpC, hcode, hn, adrV, il]
  · simp [a1, a2, b3, b4, d5, d6]
  · simp [d1, d2]
  simp -implicitDefEqProofs
  refine hk _ v B (by simp [e1]) (by simp) ?_
  simpa [hcode, hn, hb, rpC, adrV, il] using hB
theorem flat_len {l : List (List Nat)} (h : ∀ a ∈ l, Adr a) (i : Nat) : (l.take i).flatten.length ≤ 32 * l.length := by
  induction l generalizing i with
  | nil => simp
  | cons a l ih =>
    cases i with
    | zero => simp
    | succ i =>
      have h1 := ih (fun x hx => h x (by simp [hx])) i
      have h2 := (h a (by simp)).2
      simp only [List.take_succ_cons, List.flatten_cons, List.length_append, List.length_cons]
      omega
theorem w_reply_Put {r : Rp} (hr : r.ok) : MakesP Try.prog F_reply_Put [rpV r] (two (ck r)) T_uint8 .u8 (ints (encD r)) := by
  refine i_reply_Put (by simp) fun R hR => ?_
  unfold rpV rpW
  simp -implicitDefEqProofs [a_reply_Put, q_reply_Put_0, q_reply_Put_1, q_reply_Put_2, adrV, il]
  intro g0
  refine (w_reply_Check r).call (.cons (.refl _) rfl .nil) rfl ?_
  by_cases hc : ck r = 0
  · obtain ⟨c1, c2, c3, c4, c5, c6⟩ := ck0 hc
    simp -implicitDefEqProofs [q_reply_Put_2, q_reply_Put_4, q_reply_Put_5, q_reply_Put_6, hc]
    have main : ∀ env : AEnv, env 1 = .ptr g0 0 → env 5 = .int .u8 ((if r.done then 43 else 45 : Nat) : Int) → X Try.prog R (.regionD q_reply_Put_7) (.thn (((ACode.region q_reply_Put_8).seq (ACode.block 0 q_reply_Put_L13.loop)).seq ((ACode.region q_reply_Put_13).seq ACode.ret)) Kt.done) env (H0.set g0 (rpC r)) := by
      intro env e1 e5
      refine reply_Put_7 hr hc rfl e1 e5 fun env v B e1 e6 hB => ?_
      have hg0 : B g0 = some (rpC r) := hB.sub _ _ (by simp)
      simp only [rpC, adrV, il] at hg0
      simp -implicitDefEqProofs [q_reply_Put_8, e1, hg0]
      obtain ⟨p, hp⟩ : ∃ p, p = [65, r.code.toNat, if r.done then 43 else 45] ++ le 6 r.n.toNat ++ r.addr ++ le 2 r.data.length ++ r.data ++ [r.list.length] := ⟨_, rfl⟩
      have hpl : p.length = 44 + r.data.length := by rw [hp]; simp [hr.addr.2]; omega
      rw [← hp] at hB
      refine X_lp (fun (i : Nat) env C => i ≤ r.list.length ∧ SlS T_uint8 .u8 (env 6) (ints (p ++ (r.list.take i).flatten)) (H0.set g0 (rpC r)) C ∧ env 42 = .dsl 32 (r.list.map adrV) ∧ env 43 = .int .i64 r.list.length ∧ env 44 = .int .i64 i) (fun i => r.list.length - i) 0
        ⟨by omega, by simpa [e6] using hB, by simp [adrV], by simp, by simp⟩ ?_
      rintro i env C ⟨hi, hv, e42, e43, e44⟩
      obtain ⟨u, e6⟩ : ∃ u, env 6 = u := ⟨_, rfl⟩
      rw [e6] at hv
      simp -implicitDefEqProofs [q_reply_Put_L13, q_reply_Put_9, q_reply_Put_13, e6, e42, e43, e44]
      refine ⟨fun hil => ?_, fun hil => ?_⟩
      · have hai := hr.list _ (List.getElem_mem hil)
        simp -implicitDefEqProofs [q_reply_Put_10, q_reply_Put_11, q_reply_Put_12, e6, e42, e43, e44, hil, adrV]
        intro g hg
        have hf : p ++ (r.list.take (i + 1)).flatten = (p ++ (r.list.take i).flatten) ++ r.list[i] := by rw [List.take_succ_eq_append_getElem hil, List.flatten_append]; simp
        have hfl := flat_len hr.list i
        refine hv.appS (ys := ints r.list[i]) (sub_none hg) (fun Q hQ => ?_) (by simp only [ints_length, List.length_append, hai.2]; omega) fun v' C' h' hag => ?_
        · have e : (ints r.list[i]).take 32 = ints r.list[i] := List.take_of_length_le (by simp [hai.2])
          simpa [srcI, hai.2, e] using hQ
        simp -implicitDefEqProofs [e42, e43, e44, hag]
        refine lp_next (i + 1) ⟨by omega, ?_, by simp [e42], by simp [e43], by simp [wrap_i64 (show -9223372036854775808 ≤ (i : Int) + 1 ∧ (i : Int) + 1 < 9223372036854775808 by omega)]⟩ (by omega)
        rw [hf]; simpa using h'
      · have hie : i = r.list.length := by omega
        refine hR _ _ _ ?_
        rw [hie, List.take_length] at hv
        have he : p ++ r.list.flatten = encD r := by
          rw [encD, if_pos hc, enc, hp, Nat.mod_eq_of_lt (show r.code.toNat < 256 by omega), Nat.mod_eq_of_lt (show r.list.length < 256 by omega)]
        rw [he] at hv
        have := SlS_finP (F := two (ck r)) (hv.base (H0_sub _))
        simpa -implicitDefEqProofs [fpost, a_reply_Put, outOf, hc, two, hv.agg] using this
    simp only [rpC, adrV, il] at main
    cases hd : r.done
    · rw [hd] at main
      simp only [X_regionD] at main
      simp -implicitDefEqProofs
      refine main _ ?_ ?_ <;> simp
    · rw [hd] at main
      simp only [X_regionD] at main
      simp -implicitDefEqProofs
      refine main _ ?_ ?_ <;> simp
  · simp -implicitDefEqProofs [q_reply_Put_3, hc]
    refine hR _ _ _ ?_
    have := SlS_finP (F := two (ck r)) (SlS.nil (e := T_uint8) (k := .u8) (A := H0) (B := H0.set g0 (.var 47 [.int .i64 r.code, adrV r.addr, il r.data, .dsl 32 (r.list.map adrV), .int .i64 r.n, .bool r.done])) (H0_sub _))
    simp -implicitDefEqProofs [fpost, a_reply_Put, outOf, encD, hc, two]

end Go.Proofs.Ytjbiekcldkjgjaa
