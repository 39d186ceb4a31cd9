/- The walks of the sum that grows: New, Add. -/
import Derived.Test.YtjbiekcldkjgjaaDm
namespace Go.Proofs.Ytjbiekcldkjgjaa
open Go AVL
attribute [-simp] AV.isAgg aappI aapp alen shp good comps
set_option linter.unusedVariables false
set_option linter.unusedSimpArgs false
set_option maxRecDepth 8000

theorem vw_part {A : Heap} {g i n : Nat} {t : TypeId} {k : IntKind} {l : List Nat} (h : A g = some (.irow t k (ints l))) (hn : i + n ≤ l.length) : Vw A (.own g i n) (.isl k (ints ((l.drop i).take n))) := by
  have := Vw.own (A := A) (i := i) (n := n) h (by simpa using hn)
  rwa [ints_drop, ints_take] at this
/-- A sum of bytes, in memory. -/
def hashC (s : List Nat) (r : AV) (n : Nat) : Cont := .var 145 [.iarr .u32 8 (ints s), r, .int .u64 n]
structure HashR (A : Heap) (h : Nat) (r : AV) (l : List Nat) : Prop where
  at' : A h = some (hashC (stW l) r l.length)
  rest : (r = .nilS ∧ stR l = []) ∨ ∃ g, r = .own g 0 (stR l).length ∧ A g = some (.irow T_uint8 .u8 (ints (stR l))) ∧ g ≠ h
theorem w_digest_New {A : Heap} {K Kp : AV → Heap → Prop} (hk : ∀ h, A h = none → HashR (A.set h (hashC H256 .nilS 0)) h .nilS [] → K (.ptr h 0) (A.set h (hashC H256 .nilS 0))) : SimX Try.prog F_digest_New [] A (outK K Kp) := by
  refine j_digest_New (by simp) ?_
  simp -implicitDefEqProofs [a_digest_New, q_digest_New_0, q_digest_New_1]
  intro h hh
  exact hk h hh ⟨by simp [stW, mixAll], .inl ⟨rfl, rfl⟩⟩
theorem w_Hash_Add {A : Heap} {h : Nat} {r : AV} {l b : List Nat} (hA : HashR A h r l) (hl : byts l) (hb : byts b) (hll : l.length ≤ 100000) (hbl : b.length ≤ 100000) {K Kp : AV → Heap → Prop}
    (hk : ∀ r' A', HashR A' h r' (l ++ b) → (∀ x c, x ≠ h → (∀ n, r ≠ .own x 0 n) → A x = some c → A' x = some c ∧ ∀ n, r' ≠ .own x 0 n) → K (.tuple []) A') : SimX Try.prog F_Pdigest_Hash_Add [.ptr h 0, .isl .u8 (ints b)] A (outK K Kp) := by
  refine j_Pdigest_Hash_Add (by simp) ?_
  have hat := hA.at'
  unfold hashC at hat
  have w1 : IntKind.u64.wrap (b.length : Int) = (b.length : Int) := wrap_u64 (by omega)
  have w2 : IntKind.u64.wrap ((l.length : Int) + (b.length : Int)) = ((l.length + b.length : Nat) : Int) := by rw [wrap_u64 (by omega)]; omega
  have hsc : r.size = 1 ∧ shp .sc [r] = some r ∧ r.isAgg = false := by
    rcases hA.rest with ⟨rfl, _⟩ | ⟨g, rfl, _⟩ <;> exact ⟨rfl, rfl, rfl⟩
  obtain ⟨n', hn'⟩ : ∃ n', l.length + b.length = n' := ⟨_, rfl⟩
  rw [hn'] at w2
  have hW8 : (stW l).length = 8 := mixAll_length _ _ rfl
  have hsl := stR_length l
  obtain ⟨all, hall⟩ : ∃ x, stR l ++ b = x := ⟨_, rfl⟩
  have hal : all.length = (stR l).length + b.length := by rw [← hall]; simp
  -- the row of all
  have row : ∃ X : Heap, (∀ x c, x ≠ h → (∀ n, r ≠ .own x 0 n) → A x = some c → X x = some c) ∧ X h = some (hashC (stW l) r n') ∧ SlS T_uint8 .u8 r (ints (stR l)) X (A.set h (hashC (stW l) r n')) ∧ ∀ x c, X x = some c → ∀ n, r ≠ .own x 0 n := by
    rcases hA.rest with ⟨rfl, h0⟩ | ⟨g, rfl, hg, hgh⟩
    · refine ⟨A.set h (hashC (stW l) .nilS n'), fun x c hx _ hc => by rw [Heap.set_ne _ _ hx]; exact hc, set_eq', ?_, fun x c _ n e => by cases e⟩
      rw [h0]; exact SlS.nil (Sub_refl _)
    · refine ⟨(A.set h (hashC (stW l) (.own g 0 (stR l).length) n')).del g, fun x c hx hr hc => ?_, ?_, SlS.alone (by simp) (by rw [Heap.set_ne _ _ hgh]; exact hg), fun x c hx n e => ?_⟩
      · have hxg : x ≠ g := fun e => hr _ (by rw [e])
        rw [del_app, if_neg hxg, Heap.set_ne _ _ hx]; exact hc
      · rw [del_app, if_neg (Ne.symm hgh)]; exact set_eq'
      · injection e with e1 _ _; subst e1; simp [del_app] at hx
  obtain ⟨X, x1, x2, x3, x4⟩ := row
  obtain ⟨hsz, hshp, hag⟩ := hsc
  simp -implicitDefEqProofs [a_Pdigest_Hash_Add, q_Pdigest_Hash_Add_0, q_Pdigest_Hash_Add_1, hat, hsz, hshp, hag, w1, w2]
  refine x3.appO (bytes := 1) (ys := ints b) (sub_of_eq ?_) (fun Q hQ => ⟨rfl, hQ⟩) (by simp only [ints_length]; omega) fun ga C hC => ?_
  · rfl
  have hap : ints (stR l) ++ ints b = ints all := by rw [← hall]; simp
  rw [hap, ints_length] at hC ⊢
  have gaX : X ga = none := by
    rcases hC.own with ⟨e, _⟩ | ⟨g, e, hg, _⟩
    · cases e
    · injection e with e _ _; rw [e]; exact hg
  have gaC : C ga = some (.irow T_uint8 .u8 (ints all)) := by
    rcases hC.own with ⟨e, _⟩ | ⟨g, e, _, hg⟩
    · cases e
    · injection e with e _ _; rw [e]; exact hg
  have gah : ga ≠ h := by rintro rfl; rw [x2] at gaX; cases gaX
  simp -implicitDefEqProofs
  have hab : byts all := by rw [← hall]; exact byts_append (byts_drop hl _) hb
  have hWw : ∀ j, Words (mixAll (stW l) j all) := fun j => mixAll_words _ _ (mixAll_words _ _ H256_words)
  have hW : ∀ j, (mixAll (stW l) j all).length = 8 := fun j => mixAll_length _ _ hW8
  refine X_lp (fun (j : Nat) env B => 64 * j ≤ all.length ∧ env 0 = .ptr h 0 ∧ env 4 = .own ga (64 * j) (all.length - 64 * j) ∧ B h = some (hashC (mixAll (stW l) j all) r n') ∧ B ga = some (.irow T_uint8 .u8 (ints all)) ∧ ∀ x c, x ≠ h → X x = some c → B x = some c) (fun j => all.length - 64 * j) 0
    ⟨by omega, by simp, by simp, hC.sub _ _ x2, gaC, fun x c _ hx => hC.sub _ _ hx⟩ ?_
  rintro j env B ⟨hj, e0, e4, fh, fg, fx⟩
  obtain ⟨m, hm⟩ : ∃ m, all.length - 64 * j = m := ⟨_, rfl⟩
  rw [hm] at e4
  unfold hashC at fh
  by_cases h64 : 64 ≤ m
  · have c64 : (64 : Int) ≤ m := by omega
    simp -implicitDefEqProofs [q_Pdigest_Hash_Add_L5, q_Pdigest_Hash_Add_2, q_Pdigest_Hash_Add_3, q_Pdigest_Hash_Add_4, e0, e4, fh, fg, c64, hW, hsz]
    obtain ⟨blk, hblk⟩ : ∃ x, (all.drop (64 * j)).take 64 = x := ⟨_, rfl⟩
    have hbb : byts blk := hblk ▸ byts_take (byts_drop hab _) _
    have hbl64 : blk.length = 64 := by rw [← hblk]; simp; omega
    have hvw := vw_part fg (show 64 * j + 64 ≤ all.length by omega)
    rw [hblk] at hvw
    have hstep := mixAll_succ j (stW l) all
    rw [hblk] at hstep
    refine (w_digest_mix (hWw j) (hW j) hbb hbl64).call (.cons (.refl _) rfl (.cons hvw rfl .nil)) rfl ?_
    have hm8 := mixB_length (mixAll (stW l) j all) blk
    simp -implicitDefEqProofs [e0, e4, fh, fg, hW, hsz, hm8, gah, c64]
    refine lp_next (j + 1) ⟨by omega, by simp [e0], ?_, ?_, by simp [gah, fg], fun x c hx hc => ?_⟩ (by omega)
    · simp; omega
    · rw [hstep]; simp [hashC]
    · rw [Heap.set_ne _ _ hx]; exact fx x c hx hc
  · have c64 : ¬ (64 : Int) ≤ m := by omega
    have hjd : j = all.length / 64 := by omega
    have hrl : (all.drop (64 * j)).take m = all.drop (64 * j) := List.take_of_length_le (by simp; omega)
    have hst : stR (l ++ b) = all.drop (64 * j) := by rw [stR_add, hall, hjd]
    have hsw : stW (l ++ b) = mixAll (stW l) j all := by rw [stW_add, hall, hjd]
    simp -implicitDefEqProofs [q_Pdigest_Hash_Add_L5, q_Pdigest_Hash_Add_2, q_Pdigest_Hash_Add_5, e0, e4, c64]
    intro g7 hg7
    refine (SlS.one (e := T_uint8) (l := []) (n := 0) hg7 rfl).appO (bytes := 1) (ys := ints (stR (l ++ b))) (Sub_refl _) (fun Q hQ => ?_) (by simp only [ints_length, List.length_nil]; have := stR_length (l ++ b); omega) fun g8 C8 h8 => ?_
    · have hne := fresh_ne fg hg7
      rw [hst] at hQ
      simp only [srcI, Heap.set_ne _ _ hne, fg]
      refine ⟨trivial, by simp; omega, ?_⟩
      rw [ints_drop, ints_take, hrl]; exact hQ
    simp only [List.nil_append, ints_length] at h8 ⊢
    have g8B : B g8 = none := by
      rcases h8.own with ⟨e, _⟩ | ⟨g, e, hg, _⟩
      · cases e
      · injection e with e _ _; rw [e]; exact hg
    have g8C : C8 g8 = some (.irow T_uint8 .u8 (ints (stR (l ++ b)))) := by
      rcases h8.own with ⟨e, _⟩ | ⟨g, e, _, hg⟩
      · cases e
      · injection e with e _ _; rw [e]; exact hg
    have fh8 := h8.sub _ _ fh
    have g8h : g8 ≠ h := by rintro rfl; rw [fh] at g8B; cases g8B
    simp -implicitDefEqProofs [e0, fh8, hsz]
    have hnn : n' = (l ++ b).length := by rw [List.length_append, hn']
    refine hk (.own g8 0 (stR (l ++ b)).length) _ ⟨?_, .inr ⟨g8, rfl, by rw [Heap.set_ne _ _ g8h]; exact g8C, g8h⟩⟩ fun x c hx hr hc => ⟨?_, fun n e => ?_⟩
    · rw [hsw, ← hnn]; simp [hashC]
    · rw [Heap.set_ne _ _ hx]; exact h8.sub _ _ (fx x c hx (x1 x c hx hr hc))
    · injection e with e _ _
      subst e
      have := fx _ _ hx (x1 _ _ hx hr hc)
      rw [g8B] at this; cases this
end Go.Proofs.Ytjbiekcldkjgjaa
