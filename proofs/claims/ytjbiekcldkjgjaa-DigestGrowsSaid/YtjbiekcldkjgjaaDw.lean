import Derived.Test.YtjbiekcldkjgjaaDt
/- Numbers for the law's own examples. -/
namespace Go.Proofs.Ytjbiekcldkjgjaa
open Go AVL
set_option linter.unusedVariables false

def dABC : List Nat := [0xba, 0x78, 0x16, 0xbf, 0x8f, 0x01, 0xcf, 0xea, 0x41, 0x41, 0x40, 0xde, 0x5d, 0xae, 0x22, 0x23, 0xb0, 0x03, 0x61, 0xa3, 0x96, 0x17, 0x7a, 0x9c, 0xb4, 0x10, 0xff, 0x61, 0xf2, 0x00, 0x15, 0xad]
theorem dig_abc : dig [97, 98, 99] = dABC := by decide +kernel
theorem hex_abc : (⟨#[98, 97, 55, 56, 49, 54, 98, 102, 56, 102, 48, 49, 99, 102, 101, 97, 52, 49, 52, 49, 52, 48, 100, 101, 53, 100, 97, 101, 50, 50, 50, 51, 98, 48, 48, 51, 54, 49, 97, 51, 57, 54, 49, 55, 55, 97, 57, 99, 98, 52, 49, 48, 102, 102, 54, 49, 102, 50, 48, 48, 49, 53, 97, 100]⟩ : ByteArray) = sN (hexL dABC) := by decide +kernel
end Go.Proofs.Ytjbiekcldkjgjaa

/- The walk of the law's own examples. -/
namespace Go.Proofs.Ytjbiekcldkjgjaa
open Go AVL
attribute [-simp] AV.isAgg aappI aapp alen
set_option linter.unusedVariables false
set_option linter.unusedSimpArgs false
set_option maxRecDepth 8000

theorem dABC_byts : byts dABC := by unfold byts; decide
theorem dABC_length : dABC.length = 32 := rfl
theorem par_hex {l : List Nat} (hb : byts l) (h : l.length = 32) : parA (hexL l) = l ∧ parC (hexL l) = 0 := by
  have := parL_hexL hb
  simp [parA, parC, this, h]
theorem par_xy : parA [120, 121] = List.replicate 32 0 ∧ parC [120, 121] = 3 := by decide
theorem str_xy : (⟨#[120, 121]⟩ : ByteArray) = sN [120, 121] := by decide +kernel
theorem lessL_self : ∀ l : List Nat, lessL l l = false
  | [] => rfl
  | x :: r => by simp [lessL, lessL_self r]
def z7 : List Nat := [0, 0, 0, 0, 0, 7] ++ List.replicate 26 0
theorem less_abc : lessL (List.replicate 32 0) dABC = true := by decide
theorem hom_7 : homV z7 5 = 2 := by decide
theorem build_0 (env : AEnv) (A : Heap) (K : AV → Heap → Prop) : abuild (.ia .u8 32) [.iarr .u8 32 (List.replicate 32 0)] [] env A K = K (.iarr .u8 32 (ints (List.replicate 32 0))) A := by
  kernel_rfl
theorem build_7 (env : AEnv) (A : Heap) (K : AV → Heap → Prop) : abuild (.ia .u8 32) [.iarr .u8 32 (List.replicate 32 0)] [(0, (1, (.v (.int .u8 0)))), (1, (1, (.v (.int .u8 0)))), (2, (1, (.v (.int .u8 0)))), (3, (1, (.v (.int .u8 0)))), (4, (1, (.v (.int .u8 0)))), (5, (1, (.v (.int .u8 7))))] env A K = K (.iarr .u8 32 (ints z7)) A := by
  kernel_rfl
theorem eqI_self (n : Nat) (l : List Int) : eqI n l l = true := by simp [eqI]
attribute [-simp] abuild
theorem works_8 {D l : List Nat} {R : APost} {k : Kt} {env : AEnv} {A : Heap} {g1 g2 h : Nat} {r : AV} (hb : byts D) (h32 : D.length = 32) (hD : dig l = D) (hl : byts l) (hll : l.length ≤ 100000)
    (hhex : (⟨#[98, 97, 55, 56, 49, 54, 98, 102, 56, 102, 48, 49, 99, 102, 101, 97, 52, 49, 52, 49, 52, 48, 100, 101, 53, 100, 97, 101, 50, 50, 50, 51, 98, 48, 48, 51, 54, 49, 97, 51, 57, 54, 49, 55, 55, 97, 57, 99, 98, 52, 49, 48, 102, 102, 54, 49, 102, 50, 48, 48, 49, 53, 97, 100]⟩ : ByteArray) = sN (hexL D))
    (hless : lessL (List.replicate 32 0) D = true)
    (e1 : env 1 = .ptr g1 0) (e2 : env 2 = .ptr g2 0) (e3 : env 3 = .int .i64 0) (e5 : env 5 = .int .i64 3) (e6 : env 6 = .ptr h 0) (f1 : A g1 = some (.var 39 [.iarr .u8 32 (ints D)])) (f2 : A g2 = some (.var 39 [.iarr .u8 32 (ints D)])) (hA : HashR A h r l)
    (hk : ∀ env', env' 0 = .bool true → XE Try.prog R .normal k env' A) : X Try.prog R (.regionD q_law03_works_8) k env A := by
  have hless0 := lessL_self D
  simp -implicitDefEqProofs [q_law03_works_8, e1, e2, e3, e5, e6, f1, f2, h32, -List.reduceReplicate]
  refine (w_digest_Hex hb h32).call (.cons (.refl _) rfl .nil) rfl ?_
  simp -implicitDefEqProofs [hhex, eqI_self, e1, e2, e3, e5, e6, f1, f2, h32, -List.reduceReplicate]
  refine (w_Hash_Sum hl hll).call (.cons (hash_vw hA) rfl .nil) rfl ?_
  rw [hD]
  simp -implicitDefEqProofs [Sub_refl, eqI_self, e1, e2, e3, e5, e6, f1, f2, h32, -List.reduceReplicate]
  refine (w_digest_Less h32 h32).call (.cons (.refl _) rfl (.cons (.refl _) rfl .nil)) rfl ?_
  rw [hless0]
  simp -implicitDefEqProofs [Sub_refl, eqI_self, e1, e2, e3, e5, e6, f1, f2, h32, build_0, build_7, -List.reduceReplicate]
  refine (w_digest_Less (a := List.replicate 32 0) List.length_replicate h32).call (.cons (.refl _) rfl (.cons (.refl _) rfl .nil)) rfl ?_
  rw [hless]
  simp -implicitDefEqProofs [build_0, build_7, -List.reduceReplicate]
  refine (w_digest_Home (l := z7) (by unfold byts; decide) rfl (by decide) (by decide)).call (.cons (.refl _) rfl (.cons (.refl _) rfl .nil)) rfl ?_
  rw [hom_7]
  simp -implicitDefEqProofs [-List.reduceReplicate]
  refine hk _ ?_
  simp
end Go.Proofs.Ytjbiekcldkjgjaa

/- The law's own examples, walked. -/
namespace Go.Proofs.Ytjbiekcldkjgjaa
open Go AVL
attribute [-simp] AV.isAgg aappI aapp alen abuild
set_option linter.unusedVariables false
set_option linter.unusedSimpArgs false
set_option maxRecDepth 8000

theorem w_law03_works : Gives Try.prog F_law03_works [] (.bool true) := by
  refine v_law03_works (by simp) ?_
  obtain ⟨D, hD⟩ : ∃ D, dABC = D := ⟨_, rfl⟩
  have hb := dABC_byts
  have h32 := dABC_length
  have hd := dig_abc
  have hhex := hex_abc
  have hless := less_abc
  rw [hD] at hb h32 hd hhex hless
  obtain ⟨px1, px2⟩ := par_hex hb h32
  obtain ⟨py1, py2⟩ := par_xy
  simp -implicitDefEqProofs [a_law03_works, q_law03_works_0, q_law03_works_1, -List.reduceReplicate]
  intro ga gb g
  have hv : Vw (H0.set g (.row 34 1 [.isl .u8 [97], .isl .u8 [98, 99]])) (.own g 0 2) (.dsl 1 (txts [[97], [98, 99]])) := .ownR (i := 0) (n := 2) set_eq' (by simp) (Vws.refls _)
  refine (w_digest_Of (L := [[97], [98, 99]]) (by unfold byts; decide) (by decide) (by decide)).call (.cons hv rfl .nil) rfl ?_
  have hfl : ([[97], [98, 99]] : List (List Nat)).flatten = [97, 98, 99] := rfl
  rw [hfl, hd]
  simp -implicitDefEqProofs [h32, -List.reduceReplicate]
  intro g1 a1 a2
  simp -implicitDefEqProofs [q_law03_works_2, h32, -List.reduceReplicate]
  refine (w_digest_Hex hb h32).call (.cons (.refl _) rfl .nil) rfl ?_
  simp -implicitDefEqProofs [-List.reduceReplicate]
  refine (w_digest_Parse (hexL_byts hb) (by simp [h32])).call (.cons (.refl _) rfl .nil) rfl ?_
  rw [px1, px2]
  simp -implicitDefEqProofs [h32, -List.reduceReplicate]
  intro g2 b1 b2 b3 b4
  simp -implicitDefEqProofs [q_law03_works_3, str_xy, -List.reduceReplicate]
  refine (w_digest_Parse (s := [120, 121]) (by unfold byts; decide) (by decide)).call (.cons (.refl _) rfl .nil) rfl ?_
  rw [py1, py2]
  simp -implicitDefEqProofs [-List.reduceReplicate]
  intro g4 c1 c2 c3 c4 c5 c6
  simp -implicitDefEqProofs [q_law03_works_4, -List.reduceReplicate]
  obtain ⟨B, hB⟩ : ∃ B : Heap, (((H0.set g (.row 34 1 [.isl .u8 [97], .isl .u8 [98, 99]])).set g1 (.var 39 [.iarr .u8 32 (ints D)])).set g2 (.var 39 [.iarr .u8 32 (ints D)])).set g4 (.var 39 [.iarr .u8 32 (ints (List.replicate 32 0))]) = B := ⟨_, rfl⟩
  have f1 : B g1 = some (.var 39 [.iarr .u8 32 (ints D)]) := by rw [← hB]; simp [b2, c4]
  have f2 : B g2 = some (.var 39 [.iarr .u8 32 (ints D)]) := by rw [← hB]; simp [c2]
  rw [hB]
  refine w_digest_New fun h hh hA => ?_
  have k1 := fresh_ne f1 hh
  have k2 := fresh_ne f2 hh
  simp -implicitDefEqProofs [q_law03_works_5, q_law03_works_7, -List.reduceReplicate]
  intro gs s1 s2 s3
  have hdel : (B.set h (hashC H256 .nilS 0)).del gs = B.set h (hashC H256 .nilS 0) := by
    funext x
    rw [del_app]
    split
    · rename_i e; subst e; simp [s1, s3]
    · rfl
  rw [hdel]
  refine w_Hash_Add (b := [97, 98, 99]) hA (by unfold byts; decide) (by unfold byts; decide) (by decide) (by decide) fun r' A' hr' hkeep => ?_
  have y1 := (hkeep g1 (.var 39 [.iarr .u8 32 (ints D)]) k1 (fun n e => by cases e) (by rw [set_ne' k1]; exact f1)).1
  have y2 := (hkeep g2 (.var 39 [.iarr .u8 32 (ints D)]) k2 (fun n e => by cases e) (by rw [set_ne' k2]; exact f2)).1
  have main := fun R k env1 => works_8 (R := R) (k := k) (env := env1) (A := A') (g1 := g1) (g2 := g2) (h := h) (r := r') hb h32 (l := [97, 98, 99]) hd (by unfold byts; decide) (by decide) hhex hless
  simp only [X_regionD] at main
  simp -implicitDefEqProofs [-List.reduceReplicate]
  refine main _ _ _ (by simp) (by simp) (by simp) (by simp) (by simp) y1 y2 hr' fun env' h0 => ?_
  simp -implicitDefEqProofs [h0, a_law03_works, outOf]
end Go.Proofs.Ytjbiekcldkjgjaa
