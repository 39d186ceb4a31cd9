/- The walk of CrcHolds. -/
import Derived.Test.YtgbplcelcjffdaaCm
namespace Go.Proofs.Ytgbplcelcjffdaa
open Go AVL
set_option linter.unusedVariables false
set_option linter.unusedSimpArgs false

theorem leN_four (s : Nat) (hs : s < 2 ^ 32) : leN (fourN s) = s := by
  simp only [fourN, leN]; omega
theorem four_le (s : Nat) (d : List Nat) (hs : s < 2 ^ 32) (hd : d.length = 4) (hb : Bytes d) : (fourN s == d) = decide (s = leN d) := by
  match d, hd with
  | [a, b, c, e], _ =>
    have h1 := hb a (by simp)
    have h2 := hb b (by simp)
    have h3 := hb c (by simp)
    have h4 := hb e (by simp)
    by_cases h : s = leN [a, b, c, e]
    · have h' := h
      simp only [leN] at h
      have e1 : s % 256 = a := by omega
      have e2 : s / 256 % 256 = b := by omega
      have e3 : s / 65536 % 256 = c := by omega
      have e4 : s / 16777216 % 256 = e := by omega
      simp [fourN, e1, e2, e3, e4, h'.symm]
    · have : ¬ fourN s = [a, b, c, e] := fun e => h (by rw [← e, leN_four s hs])
      simp [h, this]
theorem w5 (l : List Nat) (hl : Bytes l) : SimX Try.prog 5 [.isl .u8 (ints l)] H0 (fun o _ => o = .ret (.bool true)) := by
  refine X_intro g5 c5 (by rw [Try.ntmps5]; simp) fun R hR => ?_
  simp -implicitDefEqProofs [a5, q5_0, q5_1]
  refine ⟨fun h => ?_, fun h => ?_⟩
  · simp -implicitDefEqProofs [q5_2]
    refine w13.call .nil rfl ?_
    simp -implicitDefEqProofs
    exact hR _ _ _ (by simp [a5, fpost]; exact ⟨H0, Sub_refl _⟩)
  · have hn : l.length < 2 ^ 20 := by omega
    simp -implicitDefEqProofs [q5_3]
    refine (w17 l hl (by omega)).call (.cons (.refl _) rfl .nil) rfl ?_
    intro g _
    obtain ⟨s0, hs0⟩ : ∃ s0, s0 = l ++ fourN (moreN 0 l) := ⟨_, rfl⟩
    rw [← hs0]
    have hs0L : s0.length = l.length + 4 := by subst hs0; rw [List.length_append]; rfl
    have hs0B : Bytes s0 := by
      subst hs0
      intro x hx
      rcases List.mem_append.1 hx with h | h
      · exact hl x h
      · exact bytes_four _ x h
    have hs0H : holdsN s0 = true := by subst hs0; exact holds_sealed l
    have hs0T : List.take l.length s0 = l := by subst hs0; simp
    have hs0D : List.drop l.length s0 = fourN (moreN 0 l) := by subst hs0; simp
    clear hs0
    have hm : moreN 0 l < 2 ^ 32 := moreN_lt (by decide) hl
    have vw : ∀ a n, a + n ≤ s0.length → Vw (H0.set g (.irow 5 .u8 (ints s0))) (.own g a n) (.isl .u8 (ints ((s0.drop a).take n))) := fun a n hh => by
      have := Vw.own (A := H0.set g (.irow 5 .u8 (ints s0))) (i := a) (n := n) set_eq' (by simpa using hh)
      simpa using this
    have tail : ∀ env, env 0 = .isl .u8 (ints l) → env 3 = .own g 0 (l.length + 4) → env 4 = .bool (holdsN l) → XO Try.prog R q5_7 (.thn .ret .done) env (H0.set g (.irow 5 .u8 (ints s0))) := by
      intro env k0 k3 k4
      simp -implicitDefEqProofs [q5_7, k3]
      have h19 := w19 s0 hs0B (by omega)
      rw [hs0H] at h19
      refine h19.call (.cons (by
        have := vw 0 (l.length + 4) (by omega)
        rwa [List.drop_zero, List.take_of_length_le (by omega)] at this) rfl .nil) rfl ?_
      have e1 : IntKind.i64.wrap ((l.length : Int) + 4) = (l.length : Int) + 4 := wrap_i64 (by omega)
      simp -implicitDefEqProofs [k0, k3, e1]
      refine ⟨by omega, ?_⟩
      refine (w20 l l hl hl).call (.cons (by
        have := vw 0 l.length (by omega)
        rwa [List.drop_zero, hs0T] at this) rfl (.cons (.refl _) rfl .nil)) rfl ?_
      simp -implicitDefEqProofs [k0, k3]
      have e2 : ((l.length : Int) + 4).toNat - l.length = 4 := by omega
      rw [e2]
      refine ⟨by omega, ?_⟩
      have h18 := w18 4 (fourN (moreN 0 l)) rfl (by omega) (bytes_four _)
      rw [leN_four _ hm] at h18
      refine h18.call (.cons (by
        have := vw l.length 4 (by omega)
        rwa [hs0D, List.take_of_length_le (show (fourN (moreN 0 l)).length ≤ 4 from Nat.le_refl 4)] at this) rfl .nil) rfl ?_
      have e3 : IntKind.u64.wrap ((moreN 0 l : Nat) : Int) = ((moreN 0 l : Nat) : Int) := wrap_u64 (by omega)
      simp -implicitDefEqProofs [k0, k3]
      refine (w14 l hl (by omega)).call (.cons (.refl _) rfl .nil) rfl ?_
      simp -implicitDefEqProofs [k0, k3, e3]
      refine (w19 l hl (by omega)).call (.cons (.refl _) rfl .nil) rfl ?_
      simp -implicitDefEqProofs [k0, k3, k4]
      refine w13.call .nil rfl ?_
      simp -implicitDefEqProofs
      exact hR _ _ _ (by simp [a5, fpost]; exact ⟨H0, H0_sub _⟩)
    simp -implicitDefEqProofs [q5_4, q5_5]
    refine ⟨fun h4 => ?_, fun h4 => ?_⟩
    · have hl4 : 4 ≤ l.length := by omega
      have e1 : IntKind.i64.wrap ((l.length : Int) - 4) = ((l.length - 4 : Nat) : Int) := by rw [wrap_i64 (by omega)]; omega
      have t2 : l.length - (l.length - 4) = 4 := by omega
      have t3 : List.take 4 (List.drop (l.length - 4) l) = List.drop (l.length - 4) l := List.take_of_length_le (by simp; omega)
      have hd4 : (List.drop (l.length - 4) l).length = 4 := by simp; omega
      have hle := leN_lt _ (bytes_drop hl (l.length - 4))
      rw [hd4] at hle
      simp -implicitDefEqProofs [q5_6, e1, t2, t3]
      refine (w15 _ (bytes_take hl (l.length - 4)) (by simp; omega)).call (.cons (.refl _) rfl .nil) rfl ?_
      simp -implicitDefEqProofs [Sub_refl]
      refine (w18 4 _ hd4 (by omega) (bytes_drop hl _)).call (.cons (.refl _) rfl .nil) rfl ?_
      have e5 : IntKind.u32.wrap ((leN (List.drop (l.length - 4) l) : Nat) : Int) = ((leN (List.drop (l.length - 4) l) : Nat) : Int) := wrap_u32 (by omega)
      simp -implicitDefEqProofs [e5]
      refine tail _ (by simp) (by simp) ?_
      have hf := four_le (moreN 0 (List.take (l.length - 4) l)) (List.drop (l.length - 4) l) (moreN_lt (by decide) (bytes_take hl _)) hd4 (bytes_drop hl _)
      simp [holdsN, hl4, hf]
      omega
    · refine tail _ (by simp) (by simp) ?_
      have : ¬ 4 ≤ l.length := by omega
      simp [holdsN, this]
end Go.Proofs.Ytgbplcelcjffdaa
