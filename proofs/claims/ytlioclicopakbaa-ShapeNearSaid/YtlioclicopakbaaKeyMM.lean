import Derived.Test.YtlioclicopakbaaProg
import Derived.Test.YtlioclicopakbaaKeyNM
import Derived.Test.YtlioclicopakbaaMBase
set_option linter.unusedVariables false
set_option linter.unusedSimpArgs false
/- May a key be: the program's contract. -/
namespace Go.Proofs.Ytlioclicopakbaa
open Go.RowKit

theorem what_cases (k : UInt8) : k = 1 ∧ ((k.toNat : Int) == 1) = true ∨ k = 2 ∧ ((k.toNat : Int) == 1) = false ∧ ((k.toNat : Int) == 2) = true ∨ k = 3 ∧ ((k.toNat : Int) == 1) = false ∧ ((k.toNat : Int) == 2) = false ∧ ((k.toNat : Int) == 3) = true ∨
    (k ≠ 1 ∧ k ≠ 2 ∧ k ≠ 3) ∧ ((k.toNat : Int) == 1) = false ∧ ((k.toNat : Int) == 2) = false ∧ ((k.toNat : Int) == 3) = false := by
  have hne : ∀ (m : Nat), m < 256 → k ≠ UInt8.ofNat m → ((k.toNat : Int) == (m : Int)) = false := fun m hm h => beq_eq_false_iff_ne.2 fun e => h (by
    apply UInt8.toNat.inj
    rw [UInt8.toNat_ofNat']
    omega)
  by_cases h1 : k = 1
  · subst h1; exact .inl ⟨rfl, rfl⟩
  · by_cases h2 : k = 2
    · subst h2; exact .inr (.inl ⟨rfl, rfl, rfl⟩)
    · by_cases h3 : k = 3
      · subst h3; exact .inr (.inr (.inl ⟨rfl, rfl, rfl, rfl⟩))
      · exact .inr (.inr (.inr ⟨⟨h1, h2, h3⟩, hne 1 (by omega) h1, hne 2 (by omega) h2, hne 3 (by omega) h3⟩))
theorem str_empty (s : ByteArray) : s.toList = [] ↔ s = .empty := by
  rw [ByteArray.toList_eq]
  constructor
  · intro h
    apply ByteArray.ext
    exact Array.toList_inj.1 h
  · rintro rfl; rfl

theorem mayK_1 {i : Int} {s : ByteArray} {c : Int} (h1 : 1 ≤ i) (h2 : i ≤ 65535) : mayK ⟨i, 1, s, c⟩ ↔ s.toList = [] ∧ c = 0 := by
  rw [str_empty]; unfold mayK; simp [h1, h2]
theorem mayK_2 {i : Int} {s : ByteArray} {c : Int} (h1 : 1 ≤ i) (h2 : i ≤ 65535) : mayK ⟨i, 2, s, c⟩ ↔ nameS s ∧ c = 0 := by
  unfold mayK; simp [h1, h2]
theorem mayK_3 {i : Int} {s : ByteArray} {c : Int} (h1 : 1 ≤ i) (h2 : i ≤ 65535) : mayK ⟨i, 3, s, c⟩ ↔ s.toList = [] ∧ 0 ≤ c ∧ c < 8 := by
  rw [str_empty]; unfold mayK; simp [h1, h2]
theorem mayK_4 {i : Int} {a : UInt8} {s : ByteArray} {c : Int} (h : a ≠ 1 ∧ a ≠ 2 ∧ a ≠ 3) : ¬ mayK ⟨i, a, s, c⟩ := by
  unfold mayK; simp [h.1, h.2.1, h.2.2]
theorem mayK_0 {i : Int} {a : UInt8} {s : ByteArray} {c : Int} (h : ¬ (1 ≤ i ∧ i ≤ 65535)) : ¬ mayK ⟨i, a, s, c⟩ := fun hh => h ⟨hh.1, hh.2.1⟩

set_option maxRecDepth 100000 in
set_option maxHeartbeats 1000000 in
theorem mayK_any (w : World) (k : Ky) (hs : k.name.size ≤ maxLen) : Calls Try.prog 43 #[k.val] w fun e w' => e = .returned (.bool (decide (mayK k))) ∧ Below w.heap.size w w' := by
  obtain ⟨r, hr⟩ : ∃ r, decide (mayK k) = r := ⟨_, rfl⟩
  have HR := Lib.hid hr
  rw [hr]
  clear hr
  obtain ⟨i, a, s, c⟩ := k
  unfold Ky.val
  dsimp only at hs ⊢
  have hbel : Below w.heap.size w (w.alloc (.cells #[.int .i64 i, .int .u8 (a.toNat : Int), .string s, .int .i64 c] 33)) := (Below.refl _ _).alloc (Nat.le_refl _) _
  have HW := Lib.hid hbel
  clear hbel
  by_cases hi : 1 ≤ i ∧ i ≤ 65535
  · have hi1 := hi.1
    have hi2 := hi.2
    rcases what_cases a with ⟨ha, q1⟩ | ⟨ha, q1, q2⟩ | ⟨ha, q1, q2, q3⟩ | ⟨ha, q1, q2, q3⟩
    · have HM := Lib.hid (show decide (s.toList = [] ∧ c = 0) = r by rw [← HR.out, ha]; exact decide_eq_decide.2 (mayK_1 hi1 hi2).symm)
      generalize (a.toNat : Int) = n at *
      clear ha hi
      go_enter Try.func43, Try.ntmps43
      go_wp2_with fail
      all_goals
        go_ret
        rw [← HM.out]
        refine ⟨ret_bool ?_, (Below.refl _ _).alloc (Nat.le_refl _) _⟩
        first
          | exact (decide_eq_true ⟨‹_›, ‹_›⟩).symm
          | exact (decide_eq_false (fun h => (by assumption : ¬ c = 0) h.2)).symm
          | exact (decide_eq_false (fun h => (by assumption : ¬ s.toList = []) h.1)).symm
    · have hc : c = 0 ∧ (c == 0) = true ∨ c ≠ 0 ∧ (c == 0) = false := by
        by_cases h : c = 0
        · left; simp [h]
        · right; simp [h]
      have HM := Lib.hid (show decide (nameS s ∧ c = 0) = r by rw [← HR.out, ha]; exact decide_eq_decide.2 (mayK_2 hi1 hi2).symm)
      generalize (a.toNat : Int) = n at *
      clear ha hi
      rcases hc with ⟨hc, hc'⟩ | ⟨hc, hc'⟩ <;> by_cases hn : nameS s
      all_goals
        have HN := Lib.hid (And.intro hn hc)
        clear hn hc
        go_enter Try.func43, Try.ntmps43
        go_wp2_with (go_at_call 53; refine (name_any _ s hs).mono ?_; rintro e w1 ⟨rfl, rfl⟩; first | rw [decide_eq_true HN.out.1] | rw [decide_eq_false HN.out.1])
        go_ret
        rw [← HM.out]
        refine ⟨ret_bool ?_, (Below.refl _ _).alloc (Nat.le_refl _) _⟩
        first
          | exact (decide_eq_true HN.out).symm
          | exact (decide_eq_false (fun h => HN.out.1 h.1)).symm
          | exact (decide_eq_false (fun h => HN.out.2 h.2)).symm
    · have HM := Lib.hid (show decide (s.toList = [] ∧ 0 ≤ c ∧ c < 8) = r by rw [← HR.out, ha]; exact decide_eq_decide.2 (mayK_3 hi1 hi2).symm)
      generalize (a.toNat : Int) = n at *
      clear ha hi
      have hc : c < 0 ∨ (0 ≤ c ∧ c < 8) ∨ 8 ≤ c := by omega
      have hs' : s.toList = [] ∧ (s.toList == []) = true ∨ ¬ s.toList = [] ∧ (s.toList == []) = false := by
        by_cases h : s.toList = []
        · left; exact ⟨h, by rw [h]; rfl⟩
        · right; exact ⟨h, beq_eq_false_iff_ne.2 h⟩
      rcases hs' with ⟨hs', hs2⟩ | ⟨hs', hs2⟩ <;> rcases hc with hc | hc | hc
      all_goals
        have HN := Lib.hid (And.intro hs' hc)
        clear hs'
        go_enter Try.func43, Try.ntmps43
        go_wp2_with fail
        all_goals
          go_ret
          rw [← HM.out]
          refine ⟨ret_bool ?_, (Below.refl _ _).alloc (Nat.le_refl _) _⟩
          first
            | exact (decide_eq_true ⟨HN.out.1, HN.out.2⟩).symm
            | exact (decide_eq_false (fun h => HN.out.1 h.1)).symm
            | exact (decide_eq_false (fun h => by have := HN.out.2; omega)).symm
            | (have hq := HN.out.2
               rw [decide_eq_false (show ¬ (s.toList = [] ∧ 0 ≤ c ∧ c < 8) from fun h => by omega), decide_eq_false (by omega)])
            | (have hq := HN.out.2
               rw [decide_eq_true (show (s.toList = [] ∧ 0 ≤ c ∧ c < 8) from ⟨HN.out.1, by omega, by omega⟩), decide_eq_true (by omega)])
    · have HM := Lib.hid (show false = r by rw [← HR.out]; exact (decide_eq_false (mayK_4 ha)).symm)
      generalize (a.toNat : Int) = n at *
      clear ha hi
      go_enter Try.func43, Try.ntmps43
      go_wp2_with fail
      go_ret
      exact ⟨ret_bool HM.out, HW.out⟩
  · have HM := Lib.hid (show false = r by rw [← HR.out]; exact (decide_eq_false (mayK_0 hi)).symm)
    have hi' : i < 1 ∨ (1 ≤ i ∧ 65535 < i) := by omega
    clear hi
    generalize (a.toNat : Int) = n at *
    rcases hi' with hi | ⟨hi, hi'⟩
    all_goals
      go_enter Try.func43, Try.ntmps43
      go_wp2_with fail
      go_ret
      exact ⟨ret_bool HM.out, HW.out⟩
end Go.Proofs.Ytlioclicopakbaa
