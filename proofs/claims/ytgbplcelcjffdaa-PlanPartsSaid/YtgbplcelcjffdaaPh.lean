/- The plain law of PlanParts: where each part begins, and which part stands where. -/
import Derived.Test.YtgbplcelcjffdaaPg
namespace Go.Proofs.Ytgbplcelcjffdaa
open Go AVL
set_option linter.unusedVariables false
set_option linter.unusedSectionVars false
set_option linter.unusedSimpArgs false

theorem firstI_hit (k : Nat) (w : ByteArray) (r : List ByteArray) (hk : 0 < k) : firstI w (List.replicate k w ++ r) = 0 := by
  cases k with
  | zero => omega
  | succ k => simp [List.replicate_succ, firstI]
theorem firstI_skip (k : Nat) (x w : ByteArray) (r : List ByteArray) (hx : ¬x = w) (hr : 0 ≤ firstI w r) : firstI w (List.replicate k x ++ r) = k + firstI w r := by
  induction k with
  | zero => simp
  | succ k ih => rw [List.replicate_succ, List.cons_append, firstI, if_neg hx, ih, if_neg (by omega)]; omega
theorem firstI_cons (x w : ByteArray) (r : List ByteArray) (hx : ¬x = w) (hr : 0 ≤ firstI w r) : firstI w (x :: r) = 1 + firstI w r := by
  rw [firstI, if_neg hx, if_neg (by omega)]; omega
theorem firstI_hd (w : ByteArray) (r : List ByteArray) : firstI w (w :: r) = 0 := by rw [firstI, if_pos rfl]
theorem parts_right (s t c a : Nat) : partsM s t c a = wSuper :: wSuper :: wState :: wMap :: wClasses :: (List.replicate (ixM s) wIndex ++ (List.replicate t wText ++ (List.replicate c wClip ++ (List.replicate a wAudit ++ (wHead :: (List.replicate (ixM s + 9 + t) wBody ++ (List.replicate s wSlot ++ []))))))) := by
  simp [partsM, five]
section
variable {s t c a : Nat} (hs : 1 ≤ s) (ht : 1 ≤ t) (hc : 1 ≤ c) (ha : 1 ≤ a)
include hs ht hc ha
theorem first_index : firstI wIndex (partsM s t c a) = 5 := by
  have hix : 1 ≤ ixM s := by simp only [ixM]; omega
  rw [parts_right]
  have e0 : firstI wIndex (List.replicate (ixM s) wIndex ++ (List.replicate (t) wText ++ (List.replicate (c) wClip ++ (List.replicate (a) wAudit ++ (wHead :: (List.replicate (ixM s + 9 + t) wBody ++ (List.replicate (s) wSlot ++ []))))))) = 0 := firstI_hit _ _ _ (by omega)
  have e1 := firstI_cons wClasses wIndex (List.replicate (ixM s) wIndex ++ (List.replicate (t) wText ++ (List.replicate (c) wClip ++ (List.replicate (a) wAudit ++ (wHead :: (List.replicate (ixM s + 9 + t) wBody ++ (List.replicate (s) wSlot ++ []))))))) (by decide) (by omega)
  have e2 := firstI_cons wMap wIndex (wClasses :: (List.replicate (ixM s) wIndex ++ (List.replicate (t) wText ++ (List.replicate (c) wClip ++ (List.replicate (a) wAudit ++ (wHead :: (List.replicate (ixM s + 9 + t) wBody ++ (List.replicate (s) wSlot ++ [])))))))) (by decide) (by omega)
  have e3 := firstI_cons wState wIndex (wMap :: (wClasses :: (List.replicate (ixM s) wIndex ++ (List.replicate (t) wText ++ (List.replicate (c) wClip ++ (List.replicate (a) wAudit ++ (wHead :: (List.replicate (ixM s + 9 + t) wBody ++ (List.replicate (s) wSlot ++ []))))))))) (by decide) (by omega)
  have e4 := firstI_cons wSuper wIndex (wState :: (wMap :: (wClasses :: (List.replicate (ixM s) wIndex ++ (List.replicate (t) wText ++ (List.replicate (c) wClip ++ (List.replicate (a) wAudit ++ (wHead :: (List.replicate (ixM s + 9 + t) wBody ++ (List.replicate (s) wSlot ++ [])))))))))) (by decide) (by omega)
  have e5 := firstI_cons wSuper wIndex (wSuper :: (wState :: (wMap :: (wClasses :: (List.replicate (ixM s) wIndex ++ (List.replicate (t) wText ++ (List.replicate (c) wClip ++ (List.replicate (a) wAudit ++ (wHead :: (List.replicate (ixM s + 9 + t) wBody ++ (List.replicate (s) wSlot ++ []))))))))))) (by decide) (by omega)
  omega
theorem first_text : firstI wText (partsM s t c a) = 5 + (ixM s : Nat) := by
  have hix : 1 ≤ ixM s := by simp only [ixM]; omega
  rw [parts_right]
  have e0 : firstI wText (List.replicate (t) wText ++ (List.replicate (c) wClip ++ (List.replicate (a) wAudit ++ (wHead :: (List.replicate (ixM s + 9 + t) wBody ++ (List.replicate (s) wSlot ++ [])))))) = 0 := firstI_hit _ _ _ (by omega)
  have e1 := firstI_skip (ixM s) wIndex wText (List.replicate (t) wText ++ (List.replicate (c) wClip ++ (List.replicate (a) wAudit ++ (wHead :: (List.replicate (ixM s + 9 + t) wBody ++ (List.replicate (s) wSlot ++ [])))))) (by decide) (by omega)
  have e2 := firstI_cons wClasses wText (List.replicate (ixM s) wIndex ++ (List.replicate (t) wText ++ (List.replicate (c) wClip ++ (List.replicate (a) wAudit ++ (wHead :: (List.replicate (ixM s + 9 + t) wBody ++ (List.replicate (s) wSlot ++ []))))))) (by decide) (by omega)
  have e3 := firstI_cons wMap wText (wClasses :: (List.replicate (ixM s) wIndex ++ (List.replicate (t) wText ++ (List.replicate (c) wClip ++ (List.replicate (a) wAudit ++ (wHead :: (List.replicate (ixM s + 9 + t) wBody ++ (List.replicate (s) wSlot ++ [])))))))) (by decide) (by omega)
  have e4 := firstI_cons wState wText (wMap :: (wClasses :: (List.replicate (ixM s) wIndex ++ (List.replicate (t) wText ++ (List.replicate (c) wClip ++ (List.replicate (a) wAudit ++ (wHead :: (List.replicate (ixM s + 9 + t) wBody ++ (List.replicate (s) wSlot ++ []))))))))) (by decide) (by omega)
  have e5 := firstI_cons wSuper wText (wState :: (wMap :: (wClasses :: (List.replicate (ixM s) wIndex ++ (List.replicate (t) wText ++ (List.replicate (c) wClip ++ (List.replicate (a) wAudit ++ (wHead :: (List.replicate (ixM s + 9 + t) wBody ++ (List.replicate (s) wSlot ++ [])))))))))) (by decide) (by omega)
  have e6 := firstI_cons wSuper wText (wSuper :: (wState :: (wMap :: (wClasses :: (List.replicate (ixM s) wIndex ++ (List.replicate (t) wText ++ (List.replicate (c) wClip ++ (List.replicate (a) wAudit ++ (wHead :: (List.replicate (ixM s + 9 + t) wBody ++ (List.replicate (s) wSlot ++ []))))))))))) (by decide) (by omega)
  omega
theorem first_clip : firstI wClip (partsM s t c a) = 5 + (ixM s : Nat) + (t : Nat) := by
  have hix : 1 ≤ ixM s := by simp only [ixM]; omega
  rw [parts_right]
  have e0 : firstI wClip (List.replicate (c) wClip ++ (List.replicate (a) wAudit ++ (wHead :: (List.replicate (ixM s + 9 + t) wBody ++ (List.replicate (s) wSlot ++ []))))) = 0 := firstI_hit _ _ _ (by omega)
  have e1 := firstI_skip (t) wText wClip (List.replicate (c) wClip ++ (List.replicate (a) wAudit ++ (wHead :: (List.replicate (ixM s + 9 + t) wBody ++ (List.replicate (s) wSlot ++ []))))) (by decide) (by omega)
  have e2 := firstI_skip (ixM s) wIndex wClip (List.replicate (t) wText ++ (List.replicate (c) wClip ++ (List.replicate (a) wAudit ++ (wHead :: (List.replicate (ixM s + 9 + t) wBody ++ (List.replicate (s) wSlot ++ [])))))) (by decide) (by omega)
  have e3 := firstI_cons wClasses wClip (List.replicate (ixM s) wIndex ++ (List.replicate (t) wText ++ (List.replicate (c) wClip ++ (List.replicate (a) wAudit ++ (wHead :: (List.replicate (ixM s + 9 + t) wBody ++ (List.replicate (s) wSlot ++ []))))))) (by decide) (by omega)
  have e4 := firstI_cons wMap wClip (wClasses :: (List.replicate (ixM s) wIndex ++ (List.replicate (t) wText ++ (List.replicate (c) wClip ++ (List.replicate (a) wAudit ++ (wHead :: (List.replicate (ixM s + 9 + t) wBody ++ (List.replicate (s) wSlot ++ [])))))))) (by decide) (by omega)
  have e5 := firstI_cons wState wClip (wMap :: (wClasses :: (List.replicate (ixM s) wIndex ++ (List.replicate (t) wText ++ (List.replicate (c) wClip ++ (List.replicate (a) wAudit ++ (wHead :: (List.replicate (ixM s + 9 + t) wBody ++ (List.replicate (s) wSlot ++ []))))))))) (by decide) (by omega)
  have e6 := firstI_cons wSuper wClip (wState :: (wMap :: (wClasses :: (List.replicate (ixM s) wIndex ++ (List.replicate (t) wText ++ (List.replicate (c) wClip ++ (List.replicate (a) wAudit ++ (wHead :: (List.replicate (ixM s + 9 + t) wBody ++ (List.replicate (s) wSlot ++ [])))))))))) (by decide) (by omega)
  have e7 := firstI_cons wSuper wClip (wSuper :: (wState :: (wMap :: (wClasses :: (List.replicate (ixM s) wIndex ++ (List.replicate (t) wText ++ (List.replicate (c) wClip ++ (List.replicate (a) wAudit ++ (wHead :: (List.replicate (ixM s + 9 + t) wBody ++ (List.replicate (s) wSlot ++ []))))))))))) (by decide) (by omega)
  omega
theorem first_audit : firstI wAudit (partsM s t c a) = 5 + (ixM s : Nat) + (t : Nat) + (c : Nat) := by
  have hix : 1 ≤ ixM s := by simp only [ixM]; omega
  rw [parts_right]
  have e0 : firstI wAudit (List.replicate (a) wAudit ++ (wHead :: (List.replicate (ixM s + 9 + t) wBody ++ (List.replicate (s) wSlot ++ [])))) = 0 := firstI_hit _ _ _ (by omega)
  have e1 := firstI_skip (c) wClip wAudit (List.replicate (a) wAudit ++ (wHead :: (List.replicate (ixM s + 9 + t) wBody ++ (List.replicate (s) wSlot ++ [])))) (by decide) (by omega)
  have e2 := firstI_skip (t) wText wAudit (List.replicate (c) wClip ++ (List.replicate (a) wAudit ++ (wHead :: (List.replicate (ixM s + 9 + t) wBody ++ (List.replicate (s) wSlot ++ []))))) (by decide) (by omega)
  have e3 := firstI_skip (ixM s) wIndex wAudit (List.replicate (t) wText ++ (List.replicate (c) wClip ++ (List.replicate (a) wAudit ++ (wHead :: (List.replicate (ixM s + 9 + t) wBody ++ (List.replicate (s) wSlot ++ [])))))) (by decide) (by omega)
  have e4 := firstI_cons wClasses wAudit (List.replicate (ixM s) wIndex ++ (List.replicate (t) wText ++ (List.replicate (c) wClip ++ (List.replicate (a) wAudit ++ (wHead :: (List.replicate (ixM s + 9 + t) wBody ++ (List.replicate (s) wSlot ++ []))))))) (by decide) (by omega)
  have e5 := firstI_cons wMap wAudit (wClasses :: (List.replicate (ixM s) wIndex ++ (List.replicate (t) wText ++ (List.replicate (c) wClip ++ (List.replicate (a) wAudit ++ (wHead :: (List.replicate (ixM s + 9 + t) wBody ++ (List.replicate (s) wSlot ++ [])))))))) (by decide) (by omega)
  have e6 := firstI_cons wState wAudit (wMap :: (wClasses :: (List.replicate (ixM s) wIndex ++ (List.replicate (t) wText ++ (List.replicate (c) wClip ++ (List.replicate (a) wAudit ++ (wHead :: (List.replicate (ixM s + 9 + t) wBody ++ (List.replicate (s) wSlot ++ []))))))))) (by decide) (by omega)
  have e7 := firstI_cons wSuper wAudit (wState :: (wMap :: (wClasses :: (List.replicate (ixM s) wIndex ++ (List.replicate (t) wText ++ (List.replicate (c) wClip ++ (List.replicate (a) wAudit ++ (wHead :: (List.replicate (ixM s + 9 + t) wBody ++ (List.replicate (s) wSlot ++ [])))))))))) (by decide) (by omega)
  have e8 := firstI_cons wSuper wAudit (wSuper :: (wState :: (wMap :: (wClasses :: (List.replicate (ixM s) wIndex ++ (List.replicate (t) wText ++ (List.replicate (c) wClip ++ (List.replicate (a) wAudit ++ (wHead :: (List.replicate (ixM s + 9 + t) wBody ++ (List.replicate (s) wSlot ++ []))))))))))) (by decide) (by omega)
  omega
theorem first_head : firstI wHead (partsM s t c a) = 5 + (ixM s : Nat) + (t : Nat) + (c : Nat) + (a : Nat) := by
  have hix : 1 ≤ ixM s := by simp only [ixM]; omega
  rw [parts_right]
  have e0 : firstI wHead (wHead :: (List.replicate (ixM s + 9 + t) wBody ++ (List.replicate (s) wSlot ++ []))) = 0 := firstI_hd _ _
  have e1 := firstI_skip (a) wAudit wHead (wHead :: (List.replicate (ixM s + 9 + t) wBody ++ (List.replicate (s) wSlot ++ []))) (by decide) (by omega)
  have e2 := firstI_skip (c) wClip wHead (List.replicate (a) wAudit ++ (wHead :: (List.replicate (ixM s + 9 + t) wBody ++ (List.replicate (s) wSlot ++ [])))) (by decide) (by omega)
  have e3 := firstI_skip (t) wText wHead (List.replicate (c) wClip ++ (List.replicate (a) wAudit ++ (wHead :: (List.replicate (ixM s + 9 + t) wBody ++ (List.replicate (s) wSlot ++ []))))) (by decide) (by omega)
  have e4 := firstI_skip (ixM s) wIndex wHead (List.replicate (t) wText ++ (List.replicate (c) wClip ++ (List.replicate (a) wAudit ++ (wHead :: (List.replicate (ixM s + 9 + t) wBody ++ (List.replicate (s) wSlot ++ [])))))) (by decide) (by omega)
  have e5 := firstI_cons wClasses wHead (List.replicate (ixM s) wIndex ++ (List.replicate (t) wText ++ (List.replicate (c) wClip ++ (List.replicate (a) wAudit ++ (wHead :: (List.replicate (ixM s + 9 + t) wBody ++ (List.replicate (s) wSlot ++ []))))))) (by decide) (by omega)
  have e6 := firstI_cons wMap wHead (wClasses :: (List.replicate (ixM s) wIndex ++ (List.replicate (t) wText ++ (List.replicate (c) wClip ++ (List.replicate (a) wAudit ++ (wHead :: (List.replicate (ixM s + 9 + t) wBody ++ (List.replicate (s) wSlot ++ [])))))))) (by decide) (by omega)
  have e7 := firstI_cons wState wHead (wMap :: (wClasses :: (List.replicate (ixM s) wIndex ++ (List.replicate (t) wText ++ (List.replicate (c) wClip ++ (List.replicate (a) wAudit ++ (wHead :: (List.replicate (ixM s + 9 + t) wBody ++ (List.replicate (s) wSlot ++ []))))))))) (by decide) (by omega)
  have e8 := firstI_cons wSuper wHead (wState :: (wMap :: (wClasses :: (List.replicate (ixM s) wIndex ++ (List.replicate (t) wText ++ (List.replicate (c) wClip ++ (List.replicate (a) wAudit ++ (wHead :: (List.replicate (ixM s + 9 + t) wBody ++ (List.replicate (s) wSlot ++ [])))))))))) (by decide) (by omega)
  have e9 := firstI_cons wSuper wHead (wSuper :: (wState :: (wMap :: (wClasses :: (List.replicate (ixM s) wIndex ++ (List.replicate (t) wText ++ (List.replicate (c) wClip ++ (List.replicate (a) wAudit ++ (wHead :: (List.replicate (ixM s + 9 + t) wBody ++ (List.replicate (s) wSlot ++ []))))))))))) (by decide) (by omega)
  omega
theorem first_body : firstI wBody (partsM s t c a) = 5 + (ixM s : Nat) + (t : Nat) + (c : Nat) + (a : Nat) + 1 := by
  have hix : 1 ≤ ixM s := by simp only [ixM]; omega
  rw [parts_right]
  have e0 : firstI wBody (List.replicate (ixM s + 9 + t) wBody ++ (List.replicate (s) wSlot ++ [])) = 0 := firstI_hit _ _ _ (by omega)
  have e1 := firstI_cons wHead wBody (List.replicate (ixM s + 9 + t) wBody ++ (List.replicate (s) wSlot ++ [])) (by decide) (by omega)
  have e2 := firstI_skip (a) wAudit wBody (wHead :: (List.replicate (ixM s + 9 + t) wBody ++ (List.replicate (s) wSlot ++ []))) (by decide) (by omega)
  have e3 := firstI_skip (c) wClip wBody (List.replicate (a) wAudit ++ (wHead :: (List.replicate (ixM s + 9 + t) wBody ++ (List.replicate (s) wSlot ++ [])))) (by decide) (by omega)
  have e4 := firstI_skip (t) wText wBody (List.replicate (c) wClip ++ (List.replicate (a) wAudit ++ (wHead :: (List.replicate (ixM s + 9 + t) wBody ++ (List.replicate (s) wSlot ++ []))))) (by decide) (by omega)
  have e5 := firstI_skip (ixM s) wIndex wBody (List.replicate (t) wText ++ (List.replicate (c) wClip ++ (List.replicate (a) wAudit ++ (wHead :: (List.replicate (ixM s + 9 + t) wBody ++ (List.replicate (s) wSlot ++ [])))))) (by decide) (by omega)
  have e6 := firstI_cons wClasses wBody (List.replicate (ixM s) wIndex ++ (List.replicate (t) wText ++ (List.replicate (c) wClip ++ (List.replicate (a) wAudit ++ (wHead :: (List.replicate (ixM s + 9 + t) wBody ++ (List.replicate (s) wSlot ++ []))))))) (by decide) (by omega)
  have e7 := firstI_cons wMap wBody (wClasses :: (List.replicate (ixM s) wIndex ++ (List.replicate (t) wText ++ (List.replicate (c) wClip ++ (List.replicate (a) wAudit ++ (wHead :: (List.replicate (ixM s + 9 + t) wBody ++ (List.replicate (s) wSlot ++ [])))))))) (by decide) (by omega)
  have e8 := firstI_cons wState wBody (wMap :: (wClasses :: (List.replicate (ixM s) wIndex ++ (List.replicate (t) wText ++ (List.replicate (c) wClip ++ (List.replicate (a) wAudit ++ (wHead :: (List.replicate (ixM s + 9 + t) wBody ++ (List.replicate (s) wSlot ++ []))))))))) (by decide) (by omega)
  have e9 := firstI_cons wSuper wBody (wState :: (wMap :: (wClasses :: (List.replicate (ixM s) wIndex ++ (List.replicate (t) wText ++ (List.replicate (c) wClip ++ (List.replicate (a) wAudit ++ (wHead :: (List.replicate (ixM s + 9 + t) wBody ++ (List.replicate (s) wSlot ++ [])))))))))) (by decide) (by omega)
  have e10 := firstI_cons wSuper wBody (wSuper :: (wState :: (wMap :: (wClasses :: (List.replicate (ixM s) wIndex ++ (List.replicate (t) wText ++ (List.replicate (c) wClip ++ (List.replicate (a) wAudit ++ (wHead :: (List.replicate (ixM s + 9 + t) wBody ++ (List.replicate (s) wSlot ++ []))))))))))) (by decide) (by omega)
  omega
theorem first_slot : firstI wSlot (partsM s t c a) = 5 + (ixM s : Nat) + (t : Nat) + (c : Nat) + (a : Nat) + 1 + (ixM s + 9 + t : Nat) := by
  have hix : 1 ≤ ixM s := by simp only [ixM]; omega
  rw [parts_right]
  have e0 : firstI wSlot (List.replicate (s) wSlot ++ []) = 0 := firstI_hit _ _ _ (by omega)
  have e1 := firstI_skip (ixM s + 9 + t) wBody wSlot (List.replicate (s) wSlot ++ []) (by decide) (by omega)
  have e2 := firstI_cons wHead wSlot (List.replicate (ixM s + 9 + t) wBody ++ (List.replicate (s) wSlot ++ [])) (by decide) (by omega)
  have e3 := firstI_skip (a) wAudit wSlot (wHead :: (List.replicate (ixM s + 9 + t) wBody ++ (List.replicate (s) wSlot ++ []))) (by decide) (by omega)
  have e4 := firstI_skip (c) wClip wSlot (List.replicate (a) wAudit ++ (wHead :: (List.replicate (ixM s + 9 + t) wBody ++ (List.replicate (s) wSlot ++ [])))) (by decide) (by omega)
  have e5 := firstI_skip (t) wText wSlot (List.replicate (c) wClip ++ (List.replicate (a) wAudit ++ (wHead :: (List.replicate (ixM s + 9 + t) wBody ++ (List.replicate (s) wSlot ++ []))))) (by decide) (by omega)
  have e6 := firstI_skip (ixM s) wIndex wSlot (List.replicate (t) wText ++ (List.replicate (c) wClip ++ (List.replicate (a) wAudit ++ (wHead :: (List.replicate (ixM s + 9 + t) wBody ++ (List.replicate (s) wSlot ++ [])))))) (by decide) (by omega)
  have e7 := firstI_cons wClasses wSlot (List.replicate (ixM s) wIndex ++ (List.replicate (t) wText ++ (List.replicate (c) wClip ++ (List.replicate (a) wAudit ++ (wHead :: (List.replicate (ixM s + 9 + t) wBody ++ (List.replicate (s) wSlot ++ []))))))) (by decide) (by omega)
  have e8 := firstI_cons wMap wSlot (wClasses :: (List.replicate (ixM s) wIndex ++ (List.replicate (t) wText ++ (List.replicate (c) wClip ++ (List.replicate (a) wAudit ++ (wHead :: (List.replicate (ixM s + 9 + t) wBody ++ (List.replicate (s) wSlot ++ [])))))))) (by decide) (by omega)
  have e9 := firstI_cons wState wSlot (wMap :: (wClasses :: (List.replicate (ixM s) wIndex ++ (List.replicate (t) wText ++ (List.replicate (c) wClip ++ (List.replicate (a) wAudit ++ (wHead :: (List.replicate (ixM s + 9 + t) wBody ++ (List.replicate (s) wSlot ++ []))))))))) (by decide) (by omega)
  have e10 := firstI_cons wSuper wSlot (wState :: (wMap :: (wClasses :: (List.replicate (ixM s) wIndex ++ (List.replicate (t) wText ++ (List.replicate (c) wClip ++ (List.replicate (a) wAudit ++ (wHead :: (List.replicate (ixM s + 9 + t) wBody ++ (List.replicate (s) wSlot ++ [])))))))))) (by decide) (by omega)
  have e11 := firstI_cons wSuper wSlot (wSuper :: (wState :: (wMap :: (wClasses :: (List.replicate (ixM s) wIndex ++ (List.replicate (t) wText ++ (List.replicate (c) wClip ++ (List.replicate (a) wAudit ++ (wHead :: (List.replicate (ixM s + 9 + t) wBody ++ (List.replicate (s) wSlot ++ []))))))))))) (by decide) (by omega)
  omega
end
theorem parts_len (s t c a : Nat) : (partsM s t c a).length = 5 + ixM s + t + c + a + 1 + (ixM s + 9 + t) + s := by simp [partsM, five]; omega
theorem seg_get (pre : List ByteArray) (k : Nat) (w : ByteArray) (n : Nat) : (pre ++ List.replicate k w)[n]? = if n < pre.length then pre[n]? else if n < pre.length + k then some w else none := by
  rw [List.getElem?_append]
  split
  · rfl
  · rw [List.getElem?_replicate]
    by_cases h : n - pre.length < k
    · rw [if_pos h, if_pos (by omega)]
    · rw [if_neg h, if_neg (by omega)]
theorem one_get (pre : List ByteArray) (w : ByteArray) (n : Nat) : (pre ++ [w])[n]? = if n < pre.length then pre[n]? else if n < pre.length + 1 then some w else none := seg_get pre 1 w n
def prtI (s t c a at_ : Int) : ByteArray := partB 5 (5 + ixN s) (5 + ixN s + t) (5 + ixN s + t + c) (5 + ixN s + t + c + a) (5 + ixN s + t + c + a + 1)
    (5 + ixN s + t + c + a + 1 + (ixN s + 9 + t)) (5 + ixN s + t + c + a + 1 + (ixN s + 9 + t) + s) at_
theorem parts_get (s t c a n : Nat) (hn : n < (partsM s t c a).length) : (partsM s t c a)[n]? = some (prtI s t c a n) := by
  rw [parts_len] at hn
  have l0 : five.length = 5 := rfl
  unfold prtI partB
  rw [ixM_eq, if_neg (by omega), if_neg (by omega)]
  simp only [partsM, seg_get, one_get, List.length_append, List.length_replicate, List.length_singleton, l0]
  by_cases c0 : 5 + ixM s + t + c + a + 1 + (ixM s + 9 + t) ≤ n
  · rw [if_neg (show ¬ n < 5 + ixM s + t + c + a + 1 + (ixM s + 9 + t) by omega), if_pos (show n < 5 + ixM s + t + c + a + 1 + (ixM s + 9 + t) + s by omega), if_pos (show 5 + ((ixM s : Nat) : Int) + t + c + a + 1 + (((ixM s : Nat) : Int) + 9 + t) ≤ n by omega)]
  rw [if_pos (show n < 5 + ixM s + t + c + a + 1 + (ixM s + 9 + t) by omega), if_neg (show ¬ (5 + ((ixM s : Nat) : Int) + t + c + a + 1 + (((ixM s : Nat) : Int) + 9 + t) ≤ n) by omega)]
  by_cases c1 : 5 + ixM s + t + c + a + 1 ≤ n
  · rw [if_neg (show ¬ n < 5 + ixM s + t + c + a + 1 by omega), if_pos (show n < 5 + ixM s + t + c + a + 1 + (ixM s + 9 + t) by omega), if_pos (show 5 + ((ixM s : Nat) : Int) + t + c + a + 1 ≤ n by omega)]
  rw [if_pos (show n < 5 + ixM s + t + c + a + 1 by omega), if_neg (show ¬ (5 + ((ixM s : Nat) : Int) + t + c + a + 1 ≤ n) by omega)]
  by_cases c2 : 5 + ixM s + t + c + a ≤ n
  · rw [if_neg (show ¬ n < 5 + ixM s + t + c + a by omega), if_pos (show n < 5 + ixM s + t + c + a + 1 by omega), if_pos (show (n : Int) = 5 + ((ixM s : Nat) : Int) + t + c + a by omega)]
  rw [if_pos (show n < 5 + ixM s + t + c + a by omega), if_neg (show ¬ ((n : Int) = 5 + ((ixM s : Nat) : Int) + t + c + a) by omega)]
  by_cases c3 : 5 + ixM s + t + c ≤ n
  · rw [if_neg (show ¬ n < 5 + ixM s + t + c by omega), if_pos (show n < 5 + ixM s + t + c + a by omega), if_pos (show 5 + ((ixM s : Nat) : Int) + t + c ≤ n by omega)]
  rw [if_pos (show n < 5 + ixM s + t + c by omega), if_neg (show ¬ (5 + ((ixM s : Nat) : Int) + t + c ≤ n) by omega)]
  by_cases c4 : 5 + ixM s + t ≤ n
  · rw [if_neg (show ¬ n < 5 + ixM s + t by omega), if_pos (show n < 5 + ixM s + t + c by omega), if_pos (show 5 + ((ixM s : Nat) : Int) + t ≤ n by omega)]
  rw [if_pos (show n < 5 + ixM s + t by omega), if_neg (show ¬ (5 + ((ixM s : Nat) : Int) + t ≤ n) by omega)]
  by_cases c5 : 5 + ixM s ≤ n
  · rw [if_neg (show ¬ n < 5 + ixM s by omega), if_pos (show n < 5 + ixM s + t by omega), if_pos (show 5 + ((ixM s : Nat) : Int) ≤ n by omega)]
  rw [if_pos (show n < 5 + ixM s by omega), if_neg (show ¬ (5 + ((ixM s : Nat) : Int) ≤ n) by omega)]
  by_cases c6 : 5 ≤ n
  · rw [if_neg (show ¬ n < 5 by omega), if_pos (show n < 5 + ixM s by omega), if_pos (show (5 : Int) ≤ n by omega)]
  rw [if_pos (show n < 5 by omega), if_neg (show ¬ ((5 : Int) ≤ n) by omega)]
  rcases (by omega : n = 0 ∨ n = 1 ∨ n = 2 ∨ n = 3 ∨ n = 4) with rfl | rfl | rfl | rfl | rfl <;> simp [five]
end Go.Proofs.Ytgbplcelcjffdaa
