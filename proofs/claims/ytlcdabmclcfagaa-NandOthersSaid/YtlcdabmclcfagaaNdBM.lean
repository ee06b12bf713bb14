import Derived.Laws.BitsAllLaws
import Derived.Test.YtlcdabmclcfagaaMBase
set_option linter.unusedVariables false
set_option linter.unusedSimpArgs false
/- Layer 3, plain: bytes that become others one by one. -/
namespace Go.Proofs.Ytlcdabmclcfagaa
open Go.RowKit

theorem spl_self {l : List UInt8} {a n : Nat} (h : a + n ≤ l.length) : spl l a (seg l a n) = l := by
  have hl := seg_len h
  apply List.ext_getElem?
  intro i
  rw [spl_get (by omega)]
  by_cases hi : a ≤ i ∧ i < a + (seg l a n).length
  · rw [if_pos hi, seg_get (by omega)]
    congr 1
    omega
  · rw [if_neg hi]
/-- So far they are others. -/
def upto (old m : List UInt8) (j : Nat) : List UInt8 := m.take j ++ old.drop j
theorem upto_len {old m : List UInt8} {j : Nat} (h : m.length = old.length) : (upto old m j).length = old.length := by
  unfold upto
  rw [List.length_append, List.length_take, List.length_drop]
  omega
theorem upto_get {old m : List UInt8} {j : Nat} (h : m.length = old.length) (i : Nat) : (upto old m j)[i]? = if i < j then m[i]? else old[i]? := by
  unfold upto
  by_cases hj : j ≤ m.length
  · have ht : (m.take j).length = j := by rw [List.length_take]; omega
    by_cases hi : i < j
    · rw [List.getElem?_append_left (by omega), List.getElem?_take, if_pos hi, if_pos hi]
    · rw [List.getElem?_append_right (by omega), ht, List.getElem?_drop, if_neg hi]
      congr 1
      omega
  · rw [List.take_of_length_le (by omega), List.drop_of_length_le (by omega), List.append_nil]
    by_cases hi : i < j
    · rw [if_pos hi]
    · rw [if_neg hi, List.getElem?_eq_none (by omega), List.getElem?_eq_none (by omega)]
theorem upto_zero (old m : List UInt8) : upto old m 0 = old := by unfold upto; simp
theorem upto_all {old m : List UInt8} (h : m.length = old.length) : upto old m old.length = m := by
  unfold upto
  rw [← h, List.take_length, h, List.drop_length, List.append_nil]
theorem upto_set {old m : List UInt8} {j : Nat} {x : UInt8} (h : m.length = old.length) (hx : m[j]? = some x) : (upto old m j).set j x = upto old m (j + 1) := by
  have hj := (List.getElem?_eq_some_iff.1 hx).1
  apply List.ext_getElem?
  intro i
  rw [List.getElem?_set, upto_get h, upto_get h, upto_len h]
  by_cases hi : j = i
  · subst hi
    rw [if_pos rfl, if_pos (by omega), if_pos (by omega), hx]
  · rw [if_neg hi]
    by_cases h2 : i < j
    · rw [if_pos h2, if_pos (by omega)]
    · rw [if_neg h2, if_neg (by omega)]
theorem spl_set {l m : List UInt8} {a j : Nat} {x : UInt8} (h : a + m.length ≤ l.length) (hj : j < m.length) : (spl l a m).set (a + j) x = spl l a (m.set j x) := by
  apply List.ext_getElem?
  intro i
  rw [List.getElem?_set, spl_get h, spl_get (by rw [List.length_set]; exact h), spl_len h, List.length_set]
  by_cases hi : a + j = i
  · subst hi
    rw [if_pos rfl, if_pos (by omega), if_pos (by omega), Nat.add_sub_cancel_left, List.getElem?_set_self hj]
  · rw [if_neg hi]
    by_cases h2 : a ≤ i ∧ i < a + m.length
    · rw [if_pos h2, if_pos h2, List.getElem?_set_ne (by omega)]
    · rw [if_neg h2, if_neg h2]
theorem mixB_bits (m o w : UInt8) : bits .or .u8 (bits .andNot .u8 (o.toNat : Int) (m.toNat : Int)) (bits .and .u8 (w.toNat : Int) (m.toNat : Int)) = ((mixB m o w).toNat : Int) := by
  have h1 := o.toNat_lt
  have h2 := m.toNat_lt
  have h3 := w.toNat_lt
  have e1 : (o &&& ~~~m).toNat = o.toNat &&& (255 - m.toNat) := by
    rw [UInt8.toNat_and, UInt8.toNat_not]
    rfl
  have e2 : (w &&& m).toNat = w.toNat &&& m.toNat := UInt8.toNat_and _ _
  rw [u8_andNot_nat _ _ h1 h2, u8_and_nat _ _ h3 h2, ← e1, ← e2, u8_or_nat _ _ (o &&& ~~~m).toNat_lt (w &&& m).toNat_lt]
  unfold mixB
  rw [UInt8.toNat_or]
end Go.Proofs.Ytlcdabmclcfagaa
