/- Strings, told by lists of numbers. -/
import Derived.Test.YtfdckjliinpjiaaVsm
namespace AVL
open Go
set_option linter.unusedVariables false

/-- The string of these bytes. -/
def sN (l : List Nat) : ByteArray := strOf (ints l)
def bytN (s : ByteArray) : List Nat := s.data.toList.map UInt8.toNat
theorem sN_data (l : List Nat) : (sN l).data.toList = l.map UInt8.ofNat := by simp [sN, strOf, ints]
theorem strOf_ints (l : List Nat) : strOf (ints l) = sN l := rfl
@[simp] theorem sN_size (l : List Nat) : (sN l).size = l.length := by
  show (sN l).data.size = _
  rw [← Array.length_toList, sN_data, List.length_map]
theorem data_inj {a b : ByteArray} (h : a.data.toList = b.data.toList) : a = b := by
  cases a with | mk x => cases b with | mk y => rw [show x = y from Array.toList_inj.1 h]
theorem sN_bytN (s : ByteArray) : sN (bytN s) = s := by
  refine data_inj ?_
  rw [sN_data, bytN, List.map_map]
  rw [List.map_congr_left (g := id) (fun n _ => by simp)]
  simp
@[simp] theorem bytN_length (s : ByteArray) : (bytN s).length = s.size := by
  simp [bytN]
theorem bytN_lt (s : ByteArray) : ∀ x ∈ bytN s, x < 256 := by
  intro x hx
  obtain ⟨b, _, rfl⟩ := List.mem_map.1 hx
  exact b.toNat_lt
theorem u8_nat {n : Nat} (h : n < 256) : (UInt8.ofNat n).toNat = n := by simp [UInt8.toNat_ofNat', Nat.mod_eq_of_lt h]
theorem bytN_sN {l : List Nat} (h : ∀ x ∈ l, x < 256) : bytN (sN l) = l := by
  rw [bytN, sN_data, List.map_map, List.map_congr_left (g := id) (fun n hn => by simpa using u8_nat (h n hn))]
  simp
theorem bytesI_bytN (s : ByteArray) : bytesI s = ints (bytN s) := by simp [bytesI, bytN, ints]
theorem bytesI_sN {l : List Nat} (h : ∀ x ∈ l, x < 256) : bytesI (sN l) = ints l := by rw [bytesI_bytN, bytN_sN h]
theorem sN_inj {a b : List Nat} (ha : ∀ x ∈ a, x < 256) (hb : ∀ x ∈ b, x < 256) : (sN a = sN b) = (a = b) := by
  apply propext
  exact ⟨fun h => by rw [← bytN_sN ha, ← bytN_sN hb, h], fun h => by rw [h]⟩
theorem sN_append (a b : List Nat) : sN a ++ sN b = sN (a ++ b) := by
  refine data_inj ?_
  rw [ByteArray.data_append, Array.toList_append, sN_data, sN_data, sN_data, List.map_append]
theorem sN_extract (l : List Nat) (a b : Nat) : (sN l).extract a b = sN ((l.drop a).take (b - a)) := by
  refine data_inj ?_
  rw [ByteArray.data_extract, Array.toList_extract, sN_data, sN_data]
  simp [List.extract_eq_take_drop, List.map_take, List.map_drop]
theorem sN_less {a b : List Nat} (ha : ∀ x ∈ a, x < 256) (hb : ∀ x ∈ b, x < 256) : Op.bytesLess (sN a).toList (sN b).toList = decide (a < b) := by
  rw [Go.ByteArray.toList_eq, Go.ByteArray.toList_eq, sN_data, sN_data]
  induction a generalizing b with
  | nil => cases b with
    | nil => rfl
    | cons y s => simp [Op.bytesLess]
  | cons x r ih => cases b with
    | nil => simp [Op.bytesLess]
    | cons y s =>
      have hx := ha x (by simp)
      have hy := hb y (by simp)
      have ih := ih (b := s) (fun z hz => ha z (by simp [hz])) (fun z hz => hb z (by simp [hz]))
      simp only [List.map_cons, Op.bytesLess, ih, List.cons_lt_cons_iff]
      have e1 : (UInt8.ofNat x < UInt8.ofNat y) ↔ x < y := by rw [UInt8.lt_iff_toNat_lt, u8_nat hx, u8_nat hy]
      have e2 : (UInt8.ofNat x == UInt8.ofNat y) = decide (x = y) := by
        rw [Bool.eq_iff_iff]; simp only [beq_iff_eq, decide_eq_true_eq]
        exact ⟨fun h => by rw [← u8_nat hx, ← u8_nat hy, h], fun h => by rw [h]⟩
      rw [Bool.eq_iff_iff]
      simp [e1, e2]
end AVL
