/- The plain law of the answers' bytes: reading what was written, and the other way. -/
import Derived.Test.YtjbiekcldkjgjaaQb
namespace Go.Proofs.Ytjbiekcldkjgjaa
open Go AVL
set_option linter.unusedVariables false
set_option linter.unusedSimpArgs false

/-- Pieces of 32. -/
def cut32 : Nat → List Nat → List (List Nat)
  | 0, _ => []
  | n + 1, l => l.take 32 :: cut32 n (l.drop 32)
@[simp] theorem cut32_length : ∀ n l, (cut32 n l).length = n
  | 0, _ => rfl
  | n + 1, l => by simp [cut32, cut32_length n]
theorem cut32_get : ∀ (n : Nat) (l : List Nat) (i : Nat) (h : i < (cut32 n l).length), (cut32 n l)[i] = (l.drop (32 * i)).take 32
  | 0, l, i, h => by simp at h
  | n + 1, l, 0, h => by simp [cut32]
  | n + 1, l, i + 1, h => by
    simp only [cut32, List.getElem_cons_succ]
    rw [cut32_get n (l.drop 32) i (by simpa [cut32] using h), List.drop_drop]
    congr 2; omega
theorem cut32_flat : ∀ (ls : List (List Nat)), (∀ a ∈ ls, Adr a) → cut32 ls.length ls.flatten = ls
  | [], _ => rfl
  | a :: ls, h => by
    have ha := (h a (by simp)).2
    simp only [List.length_cons, List.flatten_cons, cut32]
    rw [List.take_left' ha, List.drop_left' ha, cut32_flat ls fun x hx => h x (by simp [hx])]
theorem flat_cut32 : ∀ (n : Nat) (l : List Nat), l.length = 32 * n → (cut32 n l).flatten = l
  | 0, l, h => by
    have : l = [] := List.eq_nil_of_length_eq_zero (by omega)
    subst this; rfl
  | n + 1, l, h => by
    simp only [cut32, List.flatten_cons]
    rw [flat_cut32 n (l.drop 32) (by simp; omega), List.take_append_drop]
theorem cut32_adr : ∀ (n : Nat) (l : List Nat), Bytes l → l.length = 32 * n → ∀ a ∈ cut32 n l, Adr a
  | 0, l, _, _ => by simp [cut32]
  | n + 1, l, hb, h => by
    intro a ha
    simp only [cut32, List.mem_cons] at ha
    rcases ha with rfl | ha
    · exact ⟨bytes_take hb 32, by simp; omega⟩
    · exact cut32_adr n (l.drop 32) (bytes_drop hb 32) (by simp; omega) a ha

/-- The answer that bytes seem to be: its head, its data, its list. -/
def dHead (b : List Nat) : Bool := decide (44 ≤ b.length) && b[0]?.getD 0 == 65 && (b[2]?.getD 0 == 43 || b[2]?.getD 0 == 45)
def dN (b : List Nat) : Nat := leN ((b.drop 41).take 2)
def dK (b : List Nat) : Nat := b[43 + dN b]?.getD 0
def dRp (b : List Nat) : Rp :=
  ⟨(b[1]?.getD 0 : Nat), (b.drop 9).take 32, (b.drop 43).take (dN b), cut32 (dK b) (b.drop (44 + dN b)), leN ((b.drop 3).take 6), b[2]?.getD 0 == 43⟩
def dOK (b : List Nat) : Prop := dHead b = true ∧ 44 + dN b ≤ b.length ∧ b.length = 44 + dN b + 32 * dK b ∧ ck (dRp b) = 0
instance (b : List Nat) : Decidable (dOK b) := by unfold dOK; infer_instance
def dec (b : List Nat) : Option Rp := if dOK b then some (dRp b) else none
theorem getD_byte {bs : List Nat} (hb : Bytes bs) (i : Nat) : bs[i]?.getD 0 < 256 := by
  cases hg : bs[i]? with
  | none => simp
  | some y => simpa using hb y (List.mem_of_getElem? hg)
theorem dRp_ok {b : List Nat} (hb : Bytes b) (h : dHead b = true) (h2 : b.length = 44 + dN b + 32 * dK b) (hl : b.length ≤ 17000) : (dRp b).ok := by
  have h44 : 44 ≤ b.length := by
    simp only [dHead, Bool.and_eq_true, decide_eq_true_eq] at h; exact h.1.1
  have hn := leN_lt8 (bytes_take (bytes_drop hb 3) 6) (by simp; omega)
  have hn6 := leN_lt _ (bytes_take (bytes_drop hb 3) 6)
  have hl6 : ((b.drop 3).take 6).length = 6 := by simp; omega
  rw [hl6] at hn6
  have hk : dK b < 256 := getD_byte hb _
  have h1 : b[1]?.getD 0 < 256 := getD_byte hb _
  have hN := leN_lt _ (bytes_take (bytes_drop hb 41) 2)
  refine ⟨by simp only [dRp]; omega, by simp only [dRp]; omega, ⟨bytes_take (bytes_drop hb 9) 32, by simp [dRp]; omega⟩, bytes_take (bytes_drop hb 43) _, cut32_adr _ _ (bytes_drop hb _) (by simp; omega), ?_, by simp [dRp]; omega⟩
  simp only [dRp, List.length_take, List.length_drop]
  omega
theorem enc_parts {r : Rp} (hr : r.ok) (hc : ck r = 0) {b : List Nat} (hb : b = enc r) :
    b[0]? = some 65 ∧ b[1]? = some r.code.toNat ∧ b[2]? = some (if r.done then 43 else 45) ∧ (b.drop 3).take 6 = le 6 r.n.toNat ∧ (b.drop 9).take 32 = r.addr ∧ (b.drop 41).take 2 = le 2 r.data.length ∧
    (b.drop 43).take r.data.length = r.data ∧ b[43 + r.data.length]? = some r.list.length ∧ b.drop (44 + r.data.length) = r.list.flatten := by
  obtain ⟨c1, c2, c3, c4, c5, c6⟩ := ck0 hc
  have hal := hr.addr.2
  have e0 : b = [65, r.code.toNat, if r.done then 43 else 45] ++ (le 6 r.n.toNat ++ (r.addr ++ (le 2 r.data.length ++ (r.data ++ ([r.list.length] ++ r.list.flatten))))) := by
    rw [hb, enc, Nat.mod_eq_of_lt (show r.code.toNat < 256 by omega), Nat.mod_eq_of_lt (show r.list.length < 256 by omega)]
    simp only [List.append_assoc]
  have d3 : b.drop 3 = le 6 r.n.toNat ++ (r.addr ++ (le 2 r.data.length ++ (r.data ++ ([r.list.length] ++ r.list.flatten)))) := by rw [e0]; rfl
  have d9 : b.drop 9 = r.addr ++ (le 2 r.data.length ++ (r.data ++ ([r.list.length] ++ r.list.flatten))) := by
    rw [show 9 = 3 + 6 from rfl, ← List.drop_drop, d3, List.drop_left' (by simp)]
  have d41 : b.drop 41 = le 2 r.data.length ++ (r.data ++ ([r.list.length] ++ r.list.flatten)) := by
    rw [show 41 = 9 + 32 from rfl, ← List.drop_drop, d9, List.drop_left' hal]
  have d43 : b.drop 43 = r.data ++ ([r.list.length] ++ r.list.flatten) := by
    rw [show 43 = 41 + 2 from rfl, ← List.drop_drop, d41, List.drop_left' (by simp)]
  have dN' : b.drop (43 + r.data.length) = [r.list.length] ++ r.list.flatten := by
    rw [← List.drop_drop, d43, List.drop_left' rfl]
  refine ⟨by rw [e0]; rfl, by rw [e0]; rfl, by rw [e0]; rfl, by rw [d3, List.take_left' (by simp)], by rw [d9, List.take_left' hal], by rw [d41, List.take_left' (by simp)], by rw [d43, List.take_left' rfl], ?_, ?_⟩
  · have := congrArg (fun l => l[0]?) dN'
    simpa using this
  · rw [show 44 + r.data.length = (43 + r.data.length) + 1 by omega, ← List.drop_drop, dN']; rfl
theorem enc_length {r : Rp} (hr : r.ok) : (enc r).length = 44 + r.data.length + r.list.flatten.length := by
  simp only [enc, List.length_append, le_length, hr.addr.2, List.length_cons, List.length_nil]; omega
theorem flat_length {l : List (List Nat)} (h : ∀ a ∈ l, Adr a) : l.flatten.length = 32 * l.length := by
  induction l with
  | nil => rfl
  | cons a l ih =>
    rw [List.flatten_cons, List.length_append, (h a (by simp)).2, ih (fun x hx => h x (by simp [hx])), List.length_cons]; omega
theorem flat_bytes {l : List (List Nat)} (h : ∀ a ∈ l, Adr a) : Bytes l.flatten := by
  intro x hx
  obtain ⟨a, ha, hxa⟩ := List.mem_flatten.1 hx
  exact (h a ha).1 x hxa
theorem enc_bytes {r : Rp} (hr : r.ok) : Bytes (enc r) := by
  unfold enc
  refine bytes_append (bytes_append (bytes_append (bytes_append (bytes_append (bytes_append ?_ (le_bytes _ _)) hr.addr.1) (le_bytes _ _)) hr.data) ?_) (flat_bytes hr.list)
  · intro x hx
    simp only [List.mem_cons, List.not_mem_nil, or_false] at hx
    rcases hx with rfl | rfl | rfl
    · decide
    · exact Nat.mod_lt _ (by decide)
    · split <;> decide
  · intro x hx
    simp only [List.mem_cons, List.not_mem_nil, or_false] at hx
    subst hx
    exact Nat.mod_lt _ (by decide)
/-- What was written is read. -/
theorem dec_enc {r : Rp} (hr : r.ok) (hc : ck r = 0) : dOK (enc r) ∧ dRp (enc r) = r := by
  obtain ⟨b, hb⟩ : ∃ b, b = enc r := ⟨_, rfl⟩
  obtain ⟨c1, c2, c3, c4, c5, c6⟩ := ck0 hc
  obtain ⟨p0, p1, p2, p3, p4, p5, p6, p7, p8⟩ := enc_parts hr hc hb
  have hlen : b.length = 44 + r.data.length + 32 * r.list.length := by rw [hb, enc_length hr, flat_length hr.list]
  have hdN : dN b = r.data.length := by rw [dN, p5, leN_le _ _ (by omega)]
  have hdK : dK b = r.list.length := by rw [dK, hdN, p7]; rfl
  have hR : dRp b = r := by
    have e1 : ((if r.done then 43 else 45 : Nat) == 43) = r.done := by cases r.done <;> rfl
    have e2 : ((r.code.toNat : Nat) : Int) = r.code := by omega
    have e3 : ((leN (le 6 r.n.toNat) : Nat) : Int) = r.n := by rw [leN_le _ _ (by omega)]; omega
    simp only [dRp, p1, p2, p3, p4, hdN, p6, hdK, p8, Option.getD_some, e1, e2, e3, cut32_flat _ hr.list]
  rw [← hb]
  refine ⟨⟨?_, by omega, by rw [hdN, hdK]; exact hlen, by rw [hR]; exact hc⟩, hR⟩
  simp only [dHead, p0, p2, Option.getD_some, Bool.and_eq_true, decide_eq_true_eq, Bool.or_eq_true, beq_iff_eq]
  refine ⟨⟨by omega, trivial⟩, ?_⟩
  cases r.done <;> simp
theorem enc_inj {r s : Rp} (hr : r.ok) (hs : s.ok) (hc : ck r = 0) (hd : ck s = 0) (h : enc r = enc s) : r = s := by
  rw [← (dec_enc hr hc).2, h, (dec_enc hs hd).2]
/-- What is read would be written so. -/
theorem enc_dec {b : List Nat} (hb : Bytes b) (h : dOK b) : enc (dRp b) = b := by
  obtain ⟨h1, h2, h3, h4⟩ := h
  obtain ⟨c1, c2, c3, c4, c5, c6⟩ := ck0 h4
  simp only [dHead, Bool.and_eq_true, decide_eq_true_eq, Bool.or_eq_true, beq_iff_eq] at h1
  obtain ⟨⟨h44, h65⟩, hpm⟩ := h1
  have hk : dK b < 256 := getD_byte hb _
  have hb1 := getD_byte hb 1
  have lt : ∀ n, n < 44 → b[n]? = some (b[n]?.getD 0) := fun n hn => by rw [List.getElem?_eq_getElem (by omega)]; rfl
  have hdl : ((b.drop 43).take (dN b)).length = dN b := by simp; omega
  have e2 : (if (dRp b).done then 43 else 45) = b[2]?.getD 0 := by
    rcases hpm with e | e
    · have : (dRp b).done = true := by show (b[2]?.getD 0 == 43) = true; rw [e]; rfl
      rw [if_pos this, e]
    · have : ¬ (dRp b).done = true := by show ¬ (b[2]?.getD 0 == 43) = true; rw [e]; simp
      rw [if_neg this, e]
  have t3 : [65, b[1]?.getD 0, b[2]?.getD 0] = b.take 3 := by
    rw [← h65]
    apply List.ext_getElem?
    intro i
    match i with
    | 0 => simp [List.getElem?_take, ← lt 0 (by omega)]
    | 1 => simp [List.getElem?_take, ← lt 1 (by omega)]
    | 2 => simp [List.getElem?_take, ← lt 2 (by omega)]
    | i + 3 => simp [List.getElem?_take]; omega
  have l6 : ((b.drop 3).take 6).length = 6 := by simp; omega
  have l2 : ((b.drop 41).take 2).length = 2 := by simp; omega
  have t6 : le 6 (leN ((b.drop 3).take 6)) = (b.drop 3).take 6 := by
    have := le_leN _ (bytes_take (bytes_drop hb 3) 6); rw [l6] at this; exact this
  have t2 : le 2 (dN b) = (b.drop 41).take 2 := by
    have := le_leN _ (bytes_take (bytes_drop hb 41) 2); rw [l2] at this; exact this
  have tk : [dK b % 256] = (b.drop (43 + dN b)).take 1 := by
    rw [Nat.mod_eq_of_lt hk]
    have : (b.drop (43 + dN b))[0]? = some (dK b) := by
      rw [List.getElem?_drop, Nat.add_zero, dK, List.getElem?_eq_getElem (by omega)]; rfl
    cases hd : b.drop (43 + dN b) with
    | nil => rw [hd] at this; simp at this
    | cons x r => rw [hd] at this; simp at this; rw [this]; rfl
  have tf : (cut32 (dK b) (b.drop (44 + dN b))).flatten = b.drop (44 + dN b) := flat_cut32 _ _ (by simp; omega)
  unfold enc
  rw [e2]
  simp only [dRp, Int.toNat_natCast, cut32_length, hdl, Nat.mod_eq_of_lt hb1, t3, t6, t2, tk, tf]
  have j : ∀ n m, b.take n ++ (b.drop n).take m = b.take (n + m) := fun n m => by rw [List.take_add]
  rw [j 3 6, j 9 32, j 41 2, j 43, j (43 + dN b) 1, show 43 + dN b + 1 = 44 + dN b by omega, List.take_append_drop]
end Go.Proofs.Ytjbiekcldkjgjaa
