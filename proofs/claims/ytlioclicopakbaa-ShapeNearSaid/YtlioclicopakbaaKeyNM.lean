import Derived.Deep.QuietTactic
import Derived.BigQuiet
import Derived.Test.YtlioclicopakbaaProg
import Derived.Test.YtlioclicopakbaaMBase
set_option linter.unusedVariables false
set_option linter.unusedSimpArgs false
/- Names: contracts. -/
namespace Go.Proofs.Ytlioclicopakbaa
open Go.RowKit

theorem mayB_any (w : World) (b : UInt8) : Calls Try.prog 57 #[.int .u8 (b.toNat : Int)] w fun e w' => e = .returned (.bool (decide (mayB b))) ∧ w' = w := by
  have H : ∀ n : Nat, Calls Try.prog 57 #[.int .u8 (n : Int)] w fun e w' => e = .returned (.bool (decide ((97 ≤ n ∧ n ≤ 122) ∨ (48 ≤ n ∧ n ≤ 57) ∨ n = 46 ∨ n = 45))) ∧ w' = w := by
    intro n
    obtain ⟨r, hr⟩ : ∃ r, decide ((97 ≤ n ∧ n ≤ 122) ∨ (48 ≤ n ∧ n ≤ 57) ∨ n = 46 ∨ n = 45) = r := ⟨_, rfl⟩
    have HR := Lib.hid hr
    rw [hr]
    clear hr
    go_enter Try.func57, Try.ntmps57
    go_wp2
    all_goals
      go_ret
      refine ⟨ret_bool ?_, rfl⟩
      have e46 : ((n : Int) == 46) = decide (n = 46) := by rw [Bool.eq_iff_iff]; simp; omega
      have e45 : ((n : Int) == 45) = decide (n = 45) := by rw [Bool.eq_iff_iff]; simp; omega
      simp only [e46, e45, decide_eq_true_eq, decide_eq_false_iff_not] at *
      rw [← HR.out]
      first
        | (exact (decide_eq_true (by omega)).symm)
        | (exact (decide_eq_false (by omega)).symm)
  exact (H b.toNat).mono fun e w' ⟨he, hw⟩ => ⟨by rw [he]; exact ret_bool (decide_eq_decide.2 Iff.rfl), hw⟩

theorem str_get (s : ByteArray) (j : Nat) (h : j < s.size) : s[j] = s.data.toList.getD j 0 := by
  have h' : j < s.data.toList.length := by simpa using h
  rw [List.getD_eq_getElem?_getD, List.getElem?_eq_getElem h']
  rfl
theorem str_len (s : ByteArray) : s.data.toList.length = s.size := rfl
theorem nameS_iff {s : ByteArray} (h : ∀ i, i < s.size → mayB (s.data.toList.getD i 0)) : nameS s ↔ 1 ≤ s.size ∧ s.size ≤ 12 ∧ s.toList ≠ [46] ∧ s.toList ≠ [46, 46] := by
  have hl : s.toList = s.data.toList := ByteArray.toList_eq s
  rw [hl]
  unfold nameS nameL
  rw [str_len]
  constructor
  · exact fun hh => hh.2
  · refine fun hh => ⟨fun b hb => ?_, hh⟩
    obtain ⟨i, hi, rfl⟩ := List.mem_iff_getElem.1 hb
    have := h i hi
    rwa [List.getD_eq_getElem?_getD, List.getElem?_eq_getElem hi] at this

set_option maxHeartbeats 1000000 in
theorem name_any (w : World) (s : ByteArray) (hs : s.size ≤ maxLen) : Calls Try.prog 53 #[.string s] w fun e w' => e = .returned (.bool (decide (nameS s))) ∧ w' = w := by
  unfold maxLen at hs
  go_enter Try.func53, Try.ntmps53
  go_wp2_with fail
  go_loopg [6] s.size (fun k i wr => ∃ j : Nat, j + k = s.size ∧ i = .int .i64 j ∧ wr = w ∧ ∀ i (h : i < j), mayB (s.data.toList.getD i 0))
  case atStart => exact ⟨0, by omega, rfl, rfl, fun i h => absurd h (Nat.not_lt_zero _)⟩
  case round =>
    obtain ⟨j, hj, rfl, rfl, ho⟩ := hrel
    have HX := Lib.hid (And.intro hj ho)
    clear hj ho
    by_cases hlt : j < s.size
    · by_cases hm : mayB (s.data.toList.getD j 0)
      · have HM := Lib.hid hm
        clear hm
        go_wp2_with (go_at_call 57; rw [str_get s j hlt]; refine (mayB_any _ _).mono ?_; rintro e w1 ⟨rfl, rfl⟩; rw [decide_eq_true HM.out])
        go_roundg (s.size - (j + 1))
        case measure => have := HX.out.1; omega
        case rel => exact ⟨j + 1, by have := HX.out.1; omega, by go_num, rfl, fun i h => by
          rcases Nat.lt_succ_iff_lt_or_eq.1 h with h | rfl
          · exact HX.out.2 i h
          · exact HM.out⟩
      · have hno : ¬ nameS s := fun h => hm (h.1 _ (by
          rw [List.getD_eq_getElem?_getD, List.getElem?_eq_getElem (by rw [str_len]; exact hlt)]
          exact List.getElem_mem _))
        have HM := Lib.hid (And.intro hm hno)
        clear hm hno
        go_wp2_with (go_at_call 57; rw [str_get s j hlt]; refine (mayB_any _ _).mono ?_; rintro e w1 ⟨rfl, rfl⟩; rw [decide_eq_false HM.out.1])
        go_ret
        exact ⟨ret_bool (decide_eq_false HM.out.2).symm, rfl⟩
    · obtain rfl : j = s.size := by have := HX.out.1; omega
      have hge : ¬ (s.size : Int) < (s.size : Int) := by omega
      have hd : decide (nameS s) = decide (1 ≤ s.size ∧ s.size ≤ 12 ∧ s.toList ≠ [46] ∧ s.toList ≠ [46, 46]) := decide_eq_decide.2 (nameS_iff HX.out.2)
      have HD := Lib.hid hd
      clear hd
      go_wp2_with fail
      all_goals
        go_ret
        rw [HD.out]
        refine ⟨ret_bool ?_, rfl⟩
        first
          | exact (decide_eq_false (fun h => h.2.2.1 ‹_›)).symm
          | exact (decide_eq_false (fun h => by omega)).symm
          | (have h1 : 1 ≤ s.size := by omega
             have h2 : s.size ≤ 12 := by omega
             have h3 : ¬ s.toList = [46] := by assumption
             have a : (s.toList == [46]) = false := beq_eq_false_iff_ne.2 h3
             by_cases hx : s.toList = [46, 46]
             · rw [decide_eq_false (fun h => h.2.2.2 hx), hx]
               rfl
             · have b : (s.toList == [46, 46]) = false := beq_eq_false_iff_ne.2 hx
               rw [decide_eq_true ⟨h1, h2, h3, hx⟩, a, b]
               rfl)
end Go.Proofs.Ytlioclicopakbaa
