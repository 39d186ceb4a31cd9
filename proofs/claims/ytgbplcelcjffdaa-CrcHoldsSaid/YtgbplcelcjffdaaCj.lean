/- Tables, and calls that return rows. -/
import Derived.Test.YtgbplcelcjffdaaCi
namespace Go.Proofs.Ytgbplcelcjffdaa
open Go AVL
set_option linter.unusedVariables false
set_option linter.unusedSimpArgs false

def tab (M : Nat) (F : Nat → Nat) : List Nat := (List.range M).map F
@[simp] theorem tab_length (M : Nat) (F : Nat → Nat) : (tab M F).length = M := by simp [tab]
theorem tab_get {M : Nat} {F : Nat → Nat} {p : Nat} (h : p < (tab M F).length) : (tab M F)[p] = F p := by simp [tab]
theorem tab_set (M : Nat) (F : Nat → Nat) (p v : Nat) : (tab M F).set p v = tab M (fun q => if q = p then v else F q) := by
  apply List.ext_getElem
  · simp
  · intro q h1 h2
    rw [List.getElem_set, tab_get, tab_get]
    by_cases e : p = q
    · subst e; simp
    · have : ¬ q = p := fun h => e h.symm
      simp [e, this]
theorem tab_ext {M : Nat} {F G : Nat → Nat} (h : ∀ p, p < M → F p = G p) : tab M F = tab M G :=
  List.map_congr_left fun p hp => h p (List.mem_range.1 hp)
theorem rawb_out (l : List Nat) {p : Nat} (h : 8 * l.length ≤ p) : rawb l p = 0 := by
  have : l.length ≤ p / 8 := by omega
  simp [rawb, List.getElem?_eq_none this]
theorem raw_tab (l : List Nat) (z : Nat) : rawbits l (8 * l.length) ++ List.replicate z 0 = tab (8 * l.length + z) (rawb l) := by
  apply List.ext_getElem
  · simp
  · intro p h1 h2
    rw [tab_get]
    by_cases h : p < 8 * l.length
    · rw [List.getElem_append_left (by simpa using h)]
      simp [rawbits]
    · rw [List.getElem_append_right (by simp; omega), rawb_out l (by omega)]
      simp
/-- One bit more. -/
theorem mask_or (r k : Nat) : r % 2 ^ k ||| bt r k * 2 ^ k = r % 2 ^ (k + 1) := by
  apply Nat.eq_of_testBit_eq
  intro i
  rw [Nat.testBit_or, Nat.testBit_mod_two_pow, Nat.testBit_mod_two_pow]
  have hb : (bt r k * 2 ^ k).testBit i = (decide (i = k) && r.testBit k) := by
    unfold bt
    cases hk : r.testBit k with
    | false => simp
    | true =>
      simp only [Bool.toNat_true, Nat.one_mul, Nat.testBit_two_pow, Bool.and_true]
      by_cases e : k = i
      · subst e; simp
      · have : ¬ i = k := fun h => e h.symm
        simp [e, this]
  rw [hb]
  by_cases e : i = k
  · subst e; simp
  · have : (i < k + 1) = (i < k) := by apply propext; omega
    simp [e, this]
theorem call_row {P : Program} {f : FuncId} {args args' : List AV} {xs : List Nat} {A : Heap} {K Kp : AV → Heap → Prop} (h : SimX P f args' H0 (fun o A' => ∃ v, o = .ret v ∧ Row v A' xs)) (hv : VwL A args args')
    (h0 : xs = [] → K .nilS A) (hk : ∀ g, A g = none → K (.own g 0 xs.length) (A.set g (.irow 5 .u8 (ints xs)))) : SimX P f args A (outK K Kp) := by
  refine SimX.view h hv ?_ ?_
  · rintro o B ⟨v, rfl, ⟨h1, rfl, rfl⟩ | ⟨g, rfl, rfl⟩⟩
    · exact ⟨rfl, fun g c hc => by cases hc⟩
    · refine ⟨rfl, fun g' c' hc => ?_⟩
      rw [set_app] at hc
      split at hc
      · injection hc with hc; subst hc; rfl
      · cases hc
  · rintro o B ⟨v, rfl, ⟨h1, rfl, rfl⟩ | ⟨g, rfl, rfl⟩⟩ hd
    · rw [join_H0]; exact h0 h1
    · have := hd g (.irow 5 .u8 (ints xs)) (by simp)
      rw [join_set A this]; exact hk g this
end Go.Proofs.Ytgbplcelcjffdaa
