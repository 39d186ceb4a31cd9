/- The filter's bits: plain laws. -/
import Derived.Test.YtjbiekcldkjgjaaFf
namespace Go.Proofs.Ytjbiekcldkjgjaa
open Go AVL
set_option linter.unusedVariables false
set_option linter.unusedSimpArgs false

theorem bit_add : ∀ x, x < 256 → ∀ i, i < 8 → x.testBit i = false → x + 2 ^ i = x ||| 2 ^ i ∧ pop8 (x ||| 2 ^ i) = pop8 x + 1 := by decide +kernel
theorem pop8_zero : pop8 0 = 0 := by decide
theorem getD_lt {bs : List Nat} (hb : Bytes bs) (i : Nat) : bs[i]?.getD 0 < 256 := getD_byte hb i
theorem hasB_setB {bs : List Nat} {a b : Nat} (ha : a < 8 * bs.length) : hasB (setB bs a) b = (decide (a = b) || hasB bs b) := by
  unfold hasB setB
  rw [List.getElem?_set]
  by_cases h : a / 8 = b / 8
  · rw [if_pos h, if_pos (by omega), Option.getD_some, Nat.testBit_or, Nat.testBit_two_pow, h, Bool.or_comm]
    congr 1
    apply decide_eq_decide.2
    omega
  · rw [if_neg h]
    have : ¬ a = b := fun e => h (by rw [e])
    simp [this]
theorem setB_has {bs : List Nat} {a : Nat} (h : hasB bs a = true) : setB bs a = bs := by
  unfold hasB at h
  unfold setB
  cases hg : bs[a / 8]? with
  | none => rw [hg] at h; simp at h
  | some x =>
    rw [hg, Option.getD_some] at h
    rw [Option.getD_some]
    have : x ||| 2 ^ (a % 8) = x := by
      apply Nat.eq_of_testBit_eq
      intro i
      rw [Nat.testBit_or, Nat.testBit_two_pow]
      by_cases e : a % 8 = i
      · subst e; simp [h]
      · simp [e]
    rw [this]
    obtain ⟨hl, rfl⟩ := List.getElem?_eq_some_iff.1 hg
    exact List.set_getElem_self hl
theorem bits_ext {bs cs : List Nat} (hb : Bytes bs) (hc : Bytes cs) (hl : bs.length = cs.length) (h : ∀ b, b < 8 * bs.length → hasB bs b = hasB cs b) : bs = cs := by
  apply List.ext_getElem hl
  intro i h1 h2
  apply Nat.eq_of_testBit_eq
  intro j
  by_cases hj : j < 8
  · have := h (8 * i + j) (by omega)
    unfold hasB at this
    rw [show (8 * i + j) / 8 = i by omega, show (8 * i + j) % 8 = j by omega, List.getElem?_eq_getElem h1, List.getElem?_eq_getElem h2] at this
    exact this
  · have g : ∀ x, x < 256 → x.testBit j = false := fun x hx => Nat.testBit_lt_two_pow (Nat.lt_of_lt_of_le hx (show 2 ^ 8 ≤ 2 ^ j from Nat.pow_le_pow_right (by decide) (by omega)))
    rw [g _ (hb _ (List.getElem_mem h1)), g _ (hc _ (List.getElem_mem h2))]
/-- Bits that are set. -/
def setsB (bs s : List Nat) : List Nat := s.foldl setB bs
def bsOf (nb : Nat) (s : List Nat) : List Nat := setsB (zer nb) s
@[simp] theorem setsB_nil (bs : List Nat) : setsB bs [] = bs := rfl
@[simp] theorem setsB_cons (bs : List Nat) (a : Nat) (s : List Nat) : setsB bs (a :: s) = setsB (setB bs a) s := rfl
theorem setsB_append (bs s t : List Nat) : setsB bs (s ++ t) = setsB (setsB bs s) t := by simp [setsB]
@[simp] theorem setsB_length : ∀ (s bs : List Nat), (setsB bs s).length = bs.length
  | [], bs => rfl
  | a :: s, bs => by rw [setsB_cons, setsB_length, setB_length]
theorem setsB_bytes : ∀ (s : List Nat) {bs : List Nat}, Bytes bs → Bytes (setsB bs s)
  | [], _, h => h
  | a :: s, _, h => setsB_bytes s (setB_bytes h a)
theorem setsB_has (b : Nat) : ∀ (s bs : List Nat), (∀ a ∈ s, a < 8 * bs.length) → hasB (setsB bs s) b = (decide (b ∈ s) || hasB bs b)
  | [], bs, _ => by simp
  | a :: s, bs, h => by
    rw [setsB_cons, setsB_has b s _ (fun x hx => by rw [setB_length]; exact h x (by simp [hx])), hasB_setB (h a (by simp))]
    by_cases e : a = b
    · subst e; simp
    · have : ¬ b = a := fun x => e x.symm
      simp [e, this]
theorem zer_has (nb b : Nat) : hasB (zer nb) b = false := by
  unfold hasB zer
  rw [List.getElem?_replicate]
  split <;> simp
theorem bsOf_has {nb : Nat} {s : List Nat} (h : ∀ a ∈ s, a < 8 * nb) (b : Nat) : hasB (bsOf nb s) b = decide (b ∈ s) := by
  rw [bsOf, setsB_has b s _ (by simpa using h), zer_has, Bool.or_false]
@[simp] theorem bsOf_length (nb : Nat) (s : List Nat) : (bsOf nb s).length = nb := by simp [bsOf]
theorem bsOf_bytes (nb : Nat) (s : List Nat) : Bytes (bsOf nb s) := setsB_bytes s (zer_bytes nb)
theorem sum_set : ∀ (l : List Nat) (i : Nat) (h : i < l.length) (y : Nat), ones (l.set i y) + pop8 l[i] = ones l + pop8 y
  | [], i, h, y => by simp at h
  | x :: l, 0, h, y => by simp [ones]; omega
  | x :: l, i + 1, h, y => by
    have := sum_set l i (by simpa using h) y
    simp only [ones, List.set_cons_succ, List.map_cons, List.sum_cons, List.getElem_cons_succ] at this ⊢
    omega
theorem ones_setB {bs : List Nat} (hb : Bytes bs) {a : Nat} (ha : a < 8 * bs.length) (h : hasB bs a = false) : ones (setB bs a) = ones bs + 1 := by
  have h1 : a / 8 < bs.length := by omega
  unfold hasB at h
  rw [List.getElem?_eq_getElem h1, Option.getD_some] at h
  have h2 := (bit_add _ (hb _ (List.getElem_mem h1)) (a % 8) (by omega) h).2
  have h3 := sum_set bs (a / 8) h1 (bs[a / 8] ||| 2 ^ (a % 8))
  unfold setB
  rw [List.getElem?_eq_getElem h1, Option.getD_some]
  omega
theorem ones_setsB : ∀ (s : List Nat) {bs : List Nat}, Bytes bs → (∀ a ∈ s, a < 8 * bs.length) → s.Nodup → (∀ a ∈ s, hasB bs a = false) → ones (setsB bs s) = ones bs + s.length
  | [], bs, _, _, _, _ => by simp
  | a :: s, bs, hb, hr, hn, hh => by
    obtain ⟨hn1, hn2⟩ := List.nodup_cons.1 hn
    rw [setsB_cons, ones_setsB s (setB_bytes hb a) (fun x hx => by rw [setB_length]; exact hr x (by simp [hx])) hn2 (fun x hx => by
      rw [hasB_setB (hr a (by simp)), hh x (by simp [hx])]
      have : ¬ a = x := fun e => hn1 (e ▸ hx)
      simp [this]), ones_setB hb (hr a (by simp)) (hh a (by simp))]
    simp only [List.length_cons]; omega
theorem ones_zer (nb : Nat) : ones (zer nb) = 0 := by
  induction nb with
  | zero => rfl
  | succ n ih => simp only [zer, List.replicate_succ, ones, List.map_cons, List.sum_cons, pop8_zero] at ih ⊢; omega
theorem ones_bsOf {nb : Nat} {s : List Nat} (hr : ∀ a ∈ s, a < 8 * nb) (hn : s.Nodup) : ones (bsOf nb s) = s.length := by
  rw [bsOf, ones_setsB s (zer_bytes nb) (by simpa using hr) hn (fun a _ => zer_has nb a), ones_zer, Nat.zero_add]
/-! what puts -/
theorem putA_sets (bs a : List Nat) : putA bs a = setsB bs (bitsA a (8 * bs.length)) := rfl
theorem putL_sets : ∀ (l : List (List Nat)) (bs : List Nat), putL bs l = setsB bs (l.flatMap fun a => bitsA a (8 * bs.length))
  | [], bs => rfl
  | a :: l, bs => by
    have := putL_sets l (putA bs a)
    rw [putA_length] at this
    rw [List.flatMap_cons, setsB_append, ← putA_sets, ← this]
    rfl
theorem bits_lt {a : List Nat} {n x : Nat} (hn : 0 < n) (hx : x ∈ bitsA a n) : x < n := by
  obtain ⟨i, _, rfl⟩ := List.mem_map.1 hx
  exact prb_lt hn
theorem addS_mem {s : List Nat} {n x : Nat} : x ∈ addS s n ↔ x ∈ s ∨ x = n := by
  unfold addS
  split
  · rename_i h; exact ⟨.inl, fun h' => h'.elim id fun e => e ▸ h⟩
  · simp
theorem addS_nodup {s : List Nat} {n : Nat} (h : s.Nodup) : (addS s n).Nodup := by
  unfold addS
  split
  · exact h
  · rename_i hn
    rw [List.nodup_append]
    exact ⟨h, by simp, fun a ha b hb => by simp at hb; subst hb; exact fun e => hn (e ▸ ha)⟩
theorem addF : ∀ (l s : List Nat), s.Nodup → (l.foldl addS s).Nodup ∧ ∀ x, x ∈ l.foldl addS s ↔ x ∈ s ∨ x ∈ l
  | [], s, h => ⟨h, fun x => by simp⟩
  | n :: l, s, h => by
    obtain ⟨h1, h2⟩ := addF l (addS s n) (addS_nodup h)
    refine ⟨h1, fun x => ?_⟩
    rw [List.foldl_cons, h2, addS_mem, List.mem_cons]
    exact ⟨fun h => by rcases h with (h | h) | h <;> simp [h], fun h => by rcases h with h | h | h <;> simp [h]⟩
theorem setL_flat (size : Nat) : ∀ (l : List (List Nat)) (s : List Nat), l.foldl (setA size) s = (l.flatMap fun a => bitsA a size).foldl addS s
  | [], s => rfl
  | a :: l, s => by rw [List.foldl_cons, setL_flat size l, List.flatMap_cons, List.foldl_append]; rfl
theorem setL_spec (l : List (List Nat)) (size : Nat) : (setL l size).Nodup ∧ ∀ x, x ∈ setL l size ↔ x ∈ l.flatMap fun a => bitsA a size := by
  rw [setL, setL_flat]
  obtain ⟨h1, h2⟩ := addF (l.flatMap fun a => bitsA a size) [] (by simp)
  exact ⟨h1, fun x => by rw [h2]; simp⟩
theorem flat_lt {l : List (List Nat)} {n x : Nat} (hn : 0 < n) (hx : x ∈ l.flatMap fun a => bitsA a n) : x < n := by
  obtain ⟨a, _, h⟩ := List.mem_flatMap.1 hx
  exact bits_lt hn h
theorem setL_lt {l : List (List Nat)} {n : Nat} (hn : 0 < n) : ∀ x ∈ setL l n, x < n := fun x hx => flat_lt hn (((setL_spec l n).2 x).1 hx)
theorem putL_has {nb : Nat} (h : 0 < nb) (l : List (List Nat)) (b : Nat) : hasB (putL (zer nb) l) b = decide (b ∈ l.flatMap fun a => bitsA a (8 * nb)) := by
  rw [putL_sets, zer_length, setsB_has b _ _ (fun a ha => by rw [zer_length]; exact flat_lt (by omega) ha), zer_has, Bool.or_false]
theorem putL_set {nb : Nat} (h : 0 < nb) (l : List (List Nat)) : putL (zer nb) l = bsOf nb (setL l (8 * nb)) := by
  refine bits_ext (putL_bytes _ (zer_bytes nb)) (bsOf_bytes _ _) (by simp) fun b _ => ?_
  rw [putL_has h, bsOf_has (setL_lt (by omega))]
  apply decide_eq_decide.2
  exact ((setL_spec l (8 * nb)).2 b).symm
/-- Is an address among some bits? -/
def hasS (s a : List Nat) (size : Nat) : Bool := decide (prb a 0 size ∈ s) && decide (prb a 1 size ∈ s) && decide (prb a 2 size ∈ s) && decide (prb a 3 size ∈ s)
theorem hasA_set {nb : Nat} (h : 0 < nb) (l : List (List Nat)) (a : List Nat) : hasA (putL (zer nb) l) a = hasS (setL l (8 * nb)) a (8 * nb) := by
  unfold hasA hasS
  rw [putL_set h, bsOf_length, bsOf_has (setL_lt (by omega)), bsOf_has (setL_lt (by omega)), bsOf_has (setL_lt (by omega)), bsOf_has (setL_lt (by omega))]
theorem ones_putL {nb : Nat} (h : 0 < nb) (l : List (List Nat)) : ones (putL (zer nb) l) = (setL l (8 * nb)).length := by
  rw [putL_set h, ones_bsOf (setL_lt (by omega)) (setL_spec l (8 * nb)).1]
end Go.Proofs.Ytjbiekcldkjgjaa
