import Derived.Deep.QuietTactic
import Derived.BigQuiet
import Derived.Test.YtlioclicopakbaaProg
import Derived.Test.YtlioclicopakbaaByteM
set_option linter.unusedVariables false
set_option linter.unusedSimpArgs false
/- Contracts of package ends: isSize, Put. -/
namespace Go.Proofs.Ytlioclicopakbaa
open Go.RowKit

def IsSz (n : Int) : Prop := n = 1 ∨ n = 2 ∨ n = 4 ∨ n = 8

theorem isSize_yes (n : Int) (w : World) (h : IsSz n) : Calls Try.prog 56 #[.int .i64 n] w fun e w' => e = .returned (.bool true) ∧ w = w' := by
  rcases h with rfl | rfl | rfl | rfl <;>
  · go_enter Try.func56, Try.ntmps56
    go_wp2
    go_ret
    exact ⟨rfl, rfl⟩

theorem isSize_no (n : Int) (w : World) (h : ¬ IsSz n) : Calls Try.prog 56 #[.int .i64 n] w fun e w' => e = .returned (.bool false) ∧ w = w' := by
  unfold IsSz at h
  have h1 : (n == 1) = false := by simp; omega
  have h2 : (n == 2) = false := by simp; omega
  have h4 : (n == 4) = false := by simp; omega
  have h8 : (n == 8) = false := by simp; omega
  clear h
  go_enter Try.func56, Try.ntmps56
  go_wp2
  go_ret
  exact ⟨rfl, rfl⟩

theorem pow256 (s : Nat) : (256 : Int) ^ s = 2 ^ (8 * s) := by rw [Int.pow_mul]; rfl
theorem pow256n (s : Nat) : ((256 ^ s : Nat) : Int) = 2 ^ (8 * s) := by rw [← pow256, Int.natCast_pow]; rfl
theorem digit (n j : Nat) : ((n : Int) / 2 ^ (8 * j)) % 256 = ((UInt8.ofNat (n / 256 ^ j)).toNat : Int) := by
  rw [← pow256n, ← Int.natCast_ediv, UInt8.toNat_ofNat']
  omega
theorem shr_none (n s : Nat) (hn : n < 256 ^ s) : ((n : Int) / 2 ^ (8 * s) != 0) = false := by
  rw [← pow256n, ← Int.natCast_ediv, Nat.div_eq_of_lt hn]
  rfl

set_option maxHeartbeats 400000 in
theorem put_ok (n s : Nat) (w : World) (hs : IsSz s) (hn : n < 256 ^ s) (hn64 : n < 18446744073709551616) :
    Calls Try.prog 49 #[.int .u64 n, .int .i64 s] w fun e w' => ∃ v, e = .returned (.tuple #[v, .int .i64 0]) ∧ OwnB 5 w' w.heap.size v (digs n s) ∧ Below w.heap.size w w' := by
  have hmk := make_bytes (P := Try.prog) 37 5 Try.underlying37 u8info s (by rcases hs with h | h | h | h <;> omega)
  have hlo : 1 ≤ s := by rcases hs with h | h | h | h <;> omega
  have hhi : s ≤ 8 := by rcases hs with h | h | h | h <;> omega
  have hz := shr_none n s hn
  have HN := Lib.hid hn
  have HN64 := Lib.hid hn64
  clear hn hn64
  by_cases h8 : 8 ≤ s
  all_goals
    go_enter Try.func49, Try.ntmps49
    go_wp2_with (go_at_call 56; refine (isSize_yes _ _ hs).mono ?_; rintro e w' ⟨rfl, rfl⟩)
    go_loopg [27] s (fun k i wr => ∃ (j : Nat) (full : List UInt8), j + k = s ∧ i = .int .i64 j ∧ RowB 5 wr w.heap.size full ∧ full.length = s ∧ full.take j = (digs n s).take j ∧ Below w.heap.size w wr)
    case atStart => exact ⟨0, List.replicate s 0, by omega, rfl, RowB.made w _ s, by simp, rfl, (Below.refl _ _).alloc (Nat.le_refl _) _⟩
    case round =>
      obtain ⟨j, full, hj, rfl, hr, hl, ht, hb⟩ := hrel
      have HJ := Lib.hid (show j + gk = s ∧ full.length = s ∧ full.take j = (digs n s).take j from ⟨hj, hl, ht⟩)
      have HR := Lib.hid hr
      have HB := Lib.hid hb
      by_cases hlt : j < s
      · have hf := hr.frozen j
        have hc : wr.cell? ⟨w.heap.size, j, none⟩ = some (.int .u8 ((full[j]'(by omega)).toNat : Int)) := hr.cell (List.getElem?_eq_getElem (by omega))
        generalize (full[j]'(by omega)).toNat = old at hc
        clear hj hl ht hr hb
        go_wp2_with fail
        go_roundg (s - (j + 1))
        case measure => have := HJ.out.1; omega
        case rel =>
          obtain ⟨hj, hl, ht⟩ := HJ.out
          refine ⟨j + 1, full.set j (UInt8.ofNat (n / 256 ^ j)), by omega, by go_num, HR.out.set' j ?_, by simpa using hl, set_take ht (by omega) (digs_get hlt), HB.out.setCell (Nat.le_refl _) _⟩
          exact digit n j
      · have hjs : j = s := by have := HJ.out.1; omega
        subst hjs
        have hge : ¬ (j : Int) < j := by omega
        go_wp2_with fail
        go_ret2
        obtain ⟨_, hl, ht⟩ := HJ.out
        rw [List.take_of_length_le (by omega), List.take_of_length_le (by rw [digs_length]; omega)] at ht
        have hw := OwnB.whole (base := w.heap.size) (Nat.le_refl _) HR.out (by unfold maxLen; omega)
        rw [hl, ht] at hw
        exact ⟨_, rfl, hw, HB.out⟩
end Go.Proofs.Ytlioclicopakbaa
