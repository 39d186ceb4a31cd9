/- DigestGrows, walked. -/
import Derived.Test.YtjbiekcldkjgjaaDx
namespace Go.Proofs.Ytjbiekcldkjgjaa
open Go AVL
attribute [-simp] AV.isAgg aappI aapp alen abuild
set_option linter.unusedVariables false
set_option linter.unusedSimpArgs false
set_option maxRecDepth 8000

/-- All bytes so far, beside the sum that grows. -/
def AllV (B : Heap) (v : AV) (l : List Nat) (h : Nat) (r : AV) : Prop :=
  (v = .nilS ∧ l = []) ∨ ∃ g, v = .own g 0 l.length ∧ B g = some (.irow T_uint8 .u8 (ints l)) ∧ g ≠ h ∧ ∀ n, r ≠ .own g 0 n
theorem AllV.agg {B : Heap} {v : AV} {l : List Nat} {h : Nat} {r : AV} (H : AllV B v l h r) : v.isAgg = false := by
  rcases H with ⟨rfl, _⟩ | ⟨g, rfl, _⟩ <;> rfl
theorem AllV.vw {B : Heap} {v : AV} {l : List Nat} {h : Nat} {r : AV} (H : AllV B v l h r) : Vw B v (.isl .u8 (ints l)) := by
  rcases H with ⟨rfl, rfl⟩ | ⟨g, rfl, hg, _⟩
  · exact .nil .u8
  · exact vw_il' hg rfl
theorem AllV.keep {B A' : Heap} {v : AV} {l : List Nat} {h : Nat} {r r' : AV} (H : AllV B v l h r) (hkeep : ∀ x c, x ≠ h → (∀ n, r ≠ .own x 0 n) → B x = some c → A' x = some c ∧ ∀ n, r' ≠ .own x 0 n) : AllV A' v l h r' := by
  rcases H with ⟨rfl, rfl⟩ | ⟨g, rfl, hg, hgh, hr⟩
  · exact .inl ⟨rfl, rfl⟩
  · obtain ⟨k1, k2⟩ := hkeep g _ hgh hr hg
    exact .inr ⟨g, rfl, k1, hgh, k2⟩
theorem HashR.sub {A B : Heap} {h : Nat} {r : AV} {l : List Nat} (H : HashR A h r l) (hs : ∀ x c, A x = some c → x = h ∨ (∃ n, r = .own x 0 n) → B x = some c) : HashR B h r l :=
  ⟨hs _ _ H.at' (.inl rfl), H.rest.imp id fun ⟨g, e, hg, hgh⟩ => ⟨g, e, hs _ _ hg (.inr ⟨_, e⟩), hgh⟩⟩
theorem all_app {B : Heap} {v : AV} {l m ys : List Nat} {h : Nat} {r : AV} {K : AV → Heap → Prop} (H : AllV B v l h r) (hA : HashR B h r m) (hb : l.length + ys.length ≤ 1000000)
    (hk : ∀ v' C, AllV C v' (l ++ ys) h r → HashR C h r m → v'.isAgg = false → K v' C) : aappI T_uint8 .u8 1 v (.isl .u8 (ints ys)) B K := by
  have main : ∀ A0 : Heap, SlS T_uint8 .u8 v (ints l) A0 B → A0 h = B h → (∀ x n, r = .own x 0 n → A0 x = B x) → aappI T_uint8 .u8 1 v (.isl .u8 (ints ys)) B K := by
    intro A0 hS e1 e2
    refine hS.appO (bytes := 1) (ys := ints ys) (Sub_refl _) (fun Q hQ => ⟨rfl, hQ⟩) (by simp; omega) fun g C hC => ?_
    have hap : ints l ++ ints ys = ints (l ++ ys) := by simp [ints]
    rw [hap] at hC ⊢
    rw [ints_length] at hC ⊢
    have g0 : A0 g = none := by
      rcases hC.own with ⟨e, _⟩ | ⟨g1, e, hg, _⟩
      · cases e
      · injection e with e _ _; rw [e]; exact hg
    have gC : C g = some (.irow T_uint8 .u8 (ints (l ++ ys))) := by
      rcases hC.own with ⟨e, _⟩ | ⟨g1, e, _, hg⟩
      · cases e
      · injection e with e _ _; rw [e]; exact hg
    refine hk _ C (.inr ⟨g, rfl, gC, ?_, fun n e => ?_⟩) (hA.sub fun x c hx hor => ?_) rfl
    · rintro rfl; rw [e1, hA.at'] at g0; cases g0
    · have h0 := e2 g n e
      rw [g0] at h0
      rcases hA.rest with ⟨e', _⟩ | ⟨x, e', hx, _⟩
      · rw [e'] at e; cases e
      · rw [e'] at e; injection e with e _ _; subst e; rw [← h0] at hx; cases hx
    · rcases hor with rfl | ⟨n, e⟩
      · exact hC.sub _ _ (by rw [e1]; exact hx)
      · exact hC.sub _ _ (by rw [e2 x n e]; exact hx)
  rcases H with ⟨rfl, rfl⟩ | ⟨g, rfl, hg, hgh, hr⟩
  · exact main B (SlS.nil (Sub_refl _)) rfl fun _ _ _ => rfl
  · refine main (B.del g) (by have := SlS.alone (e := T_uint8) (k := .u8) (l := ints l) (n := l.length) (by simp) hg; exact this) ?_ fun x n e => ?_
    · rw [del_app, if_neg (Ne.symm hgh)]
    · rw [del_app, if_neg]
      rintro rfl; exact hr _ e
theorem txts_take (L : List (List Nat)) (i : Nat) : (txts L).take i = txts (L.take i) := by simp [txts, List.map_take]
/-- Two sums and what the chapter says of them: none tells them apart. -/
theorem grows_13 {R : APost} {k : Kt} {env : AEnv} {B : Heap} {L : List (List Nat)} {l : List Nat} {i h : Nat} {r v : AV} (hi : i < L.length) (hl : (L.take (i + 1)).flatten = l) (hb : byts l) (hL : ∀ b ∈ L, byts b) (hll : l.length ≤ 100000) (hi12 : i < 12)
    (e0 : env 0 = .dsl 1 (txts L)) (e3 : env 3 = .ptr h 0) (e4 : env 4 = v) (e5 : env 5 = .int .i64 i) (hA : HashR B h r l) (hV : AllV B v l h r)
    (hk : ∀ env', (∀ n, n < 38 → env' n = env n) → env' 52 = .bool false → XE Try.prog R .normal k env' B) : X Try.prog R (.regionD q_law03_DigestGrows_13) k env B := by
  have n4 := hV.agg
  have wi : IntKind.i64.wrap ((i : Int) + 1) = ((i + 1 : Nat) : Int) := by rw [wrap_i64 (by omega)]; omega
  have hd := dig_length l
  have ht := txts_take L (i + 1)
  have c1 : ((i + 1 : Nat) : Int) ≤ L.length := by omega
  simp -implicitDefEqProofs [q_law03_DigestGrows_13, e0, e3, e4, e5, n4]
  refine (w_Hash_Sum hb hll).call (.cons (hash_vw hA) rfl .nil) rfl ?_
  simp -implicitDefEqProofs [n4]
  refine (w_ref03_Sum hb hll).call (.cons hV.vw n4 .nil) rfl ?_
  obtain ⟨j, hj⟩ : ∃ j, i + 1 = j := ⟨_, rfl⟩
  rw [hj] at wi ht c1
  have hjl : j ≤ L.length := by omega
  simp -implicitDefEqProofs [eqI_self, e0, e3, e5, wi, ht, c1, hjl]
  refine (w_Hash_Sum hb hll).call (.cons (hash_vw hA) rfl .nil) rfl ?_
  simp -implicitDefEqProofs [Sub_refl]
  have hOf := w_digest_Of (L := L.take j) (fun b hb => hL b (List.mem_of_mem_take hb)) (by rw [← hj, hl]; exact hll) (by simp; omega)
  rw [← hj, hl, hj] at hOf
  refine hOf.call (.cons (.refl _) rfl .nil) rfl ?_
  simp -implicitDefEqProofs [eqI_self]
  refine hk _ (fun n hn => ?_) ?_
  · have hne : ∀ k, 38 ≤ k → ¬ n = k := fun k hk => by omega
    simp [hne]
  · simp
end Go.Proofs.Ytjbiekcldkjgjaa
