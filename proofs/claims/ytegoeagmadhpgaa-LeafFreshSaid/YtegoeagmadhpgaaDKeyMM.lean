import Derived.Test.YtegoeagmadhpgaaKeyMM
set_option linter.unusedVariables false
set_option linter.unusedSimpArgs false
/- The document's names, may a key be: contracts. -/
namespace Go.Proofs.Ytegoeagmadhpgaa
open Go.RowKit

theorem nm_cases (b : UInt8) :
    (mayB b ∧ (((97 : Int) ≤ b.toNat ∧ (b.toNat : Int) ≤ 122) ∨ ((b.toNat : Int) < 97 ∧ 48 ≤ (b.toNat : Int) ∧ (b.toNat : Int) ≤ 57) ∨ ((b.toNat : Int) < 48 ∧ ((b.toNat : Int) == 46) = true) ∨ ((b.toNat : Int) < 48 ∧ ((b.toNat : Int) == 46) = false ∧ ((b.toNat : Int) == 45) = true))) ∨
    (¬ mayB b ∧ ((b.toNat : Int) == 46) = false ∧ ((b.toNat : Int) == 45) = false ∧ ((122 < (b.toNat : Int) ∧ decide ((b.toNat : Int) ≤ 122) = false ∧ decide ((b.toNat : Int) ≤ 57) = false) ∨ (57 < (b.toNat : Int) ∧ (b.toNat : Int) < 97 ∧ decide ((b.toNat : Int) ≤ 57) = false) ∨ (b.toNat : Int) < 48)) := by
  unfold mayB
  generalize b.toNat = n
  simp only [beq_iff_eq, beq_eq_false_iff_ne, ne_eq, decide_eq_false_iff_not]
  omega

set_option maxRecDepth 100000 in
set_option maxHeartbeats 1000000 in
theorem dName_any (w : World) (s : ByteArray) (hs : s.size ≤ maxLen) : Calls Try.prog 66 #[.string s] w fun e w' => e = .returned (.bool (decide (nameS s))) ∧ w' = w := by
  unfold maxLen at hs
  go_enter Try.func66, Try.ntmps66
  go_wp2_with fail
  go_loopg [3] s.size (fun k i wr => ∃ j : Nat, j + k = s.size ∧ i = .int .i64 j ∧ wr = w ∧ ∀ i (h : i < j), mayB (s.data.toList.getD i 0))
  case atStart => exact ⟨0, by omega, rfl, rfl, fun i h => absurd h (Nat.not_lt_zero _)⟩
  case round =>
    obtain ⟨j, hj, rfl, rfl, ho⟩ := hrel
    have HX := Lib.hid (And.intro hj ho)
    clear hj ho
    by_cases hlt : j < s.size
    · have hg := str_get s j hlt
      rcases nm_cases s[j] with ⟨hm, hc⟩ | ⟨hm, q1, q2, hc⟩
      · rw [hg] at hm
        have HM := Lib.hid hm
        clear hm hg
        rcases hc with ⟨c1, c2⟩ | ⟨c1, c2, c3⟩ | ⟨c1, c2⟩ | ⟨c1, c2, c3⟩
        all_goals
          go_wp2_with fail
          go_roundg (s.size - (j + 1))
          case measure => have := HX.out.1; omega
          case rel => exact ⟨j + 1, by have := HX.out.1; omega, by go_num, rfl, fun i h => by
            rcases Nat.lt_succ_iff_lt_or_eq.1 h with h | rfl
            · exact HX.out.2 i h
            · exact HM.out⟩
      · rw [hg] at hm
        have hno : ¬ nameS s := fun h => hm (h.1 _ (by
          rw [List.getD_eq_getElem?_getD, List.getElem?_eq_getElem (by rw [str_len]; exact hlt)]
          exact List.getElem_mem _))
        have HM := Lib.hid hno
        clear hm hno hg
        rcases hc with ⟨c1, c2, c3⟩ | ⟨c1, c2, c3⟩ | c1
        all_goals
          go_wp2_with fail
          go_ret
          exact ⟨ret_bool (decide_eq_false HM.out).symm, rfl⟩
    · obtain rfl : j = s.size := by have := HX.out.1; omega
      have hge : ¬ (s.size : Int) < (s.size : Int) := by omega
      have hd : decide (nameS s) = decide (1 ≤ s.size ∧ s.size ≤ 12 ∧ s.toList ≠ [46] ∧ s.toList ≠ [46, 46]) := decide_eq_decide.2 (nameS_iff HX.out.2)
      have HD := Lib.hid hd
      clear hd
      go_wp2_with fail
      all_goals
        go_ret
        rw [HD.out]
        refine ⟨ret_bool ?_, rfl⟩
        first
          | exact (decide_eq_false (fun h => h.2.2.1 ‹_›)).symm
          | exact (decide_eq_false (fun h => by omega)).symm
          | (have h1 : 1 ≤ s.size := by omega
             have h2 : s.size ≤ 12 := by omega
             have h3 : ¬ s.toList = [46] := by assumption
             have a : (s.toList == [46]) = false := beq_eq_false_iff_ne.2 h3
             by_cases hx : s.toList = [46, 46]
             · rw [decide_eq_false (fun h => h.2.2.2 hx), hx]
               rfl
             · have b : (s.toList == [46, 46]) = false := beq_eq_false_iff_ne.2 hx
               rw [decide_eq_true ⟨h1, h2, h3, hx⟩, a, b]
               rfl)

set_option maxRecDepth 100000 in
set_option maxHeartbeats 1000000 in
theorem dMayK_any (w : World) (k : Ky) (hs : k.name.size ≤ maxLen) : Calls Try.prog 55 #[k.val] w fun e w' => e = .returned (.bool (decide (mayK k))) ∧ Below w.heap.size w w' := by
  obtain ⟨r, hr⟩ : ∃ r, decide (mayK k) = r := ⟨_, rfl⟩
  have HR := Lib.hid hr
  rw [hr]
  clear hr
  obtain ⟨i, a, s, c⟩ := k
  unfold Ky.val
  dsimp only at hs ⊢
  have hbel : Below w.heap.size w (w.alloc (.cells #[.int .i64 i, .int .u8 (a.toNat : Int), .string s, .int .i64 c] 30)) := (Below.refl _ _).alloc (Nat.le_refl _) _
  have HW := Lib.hid hbel
  clear hbel
  by_cases hi : 1 ≤ i ∧ i ≤ 65535
  · have hi1 := hi.1
    have hi2 := hi.2
    rcases what_cases a with ⟨ha, q1⟩ | ⟨ha, q1, q2⟩ | ⟨ha, q1, q2, q3⟩ | ⟨ha, q1, q2, q3⟩
    · have HM := Lib.hid (show decide (s.toList = [] ∧ c = 0) = r by rw [← HR.out, ha]; exact decide_eq_decide.2 (mayK_1 hi1 hi2).symm)
      generalize (a.toNat : Int) = n at *
      clear ha hi
      have hc : c = 0 ∧ (c == 0) = true ∨ c ≠ 0 ∧ (c == 0) = false := by
        by_cases h : c = 0
        · left; simp [h]
        · right; simp [h]
      have hs' : s.toList = [] ∧ (s.toList == []) = true ∨ ¬ s.toList = [] ∧ (s.toList == []) = false := by
        by_cases h : s.toList = []
        · left; exact ⟨h, by rw [h]; rfl⟩
        · right; exact ⟨h, beq_eq_false_iff_ne.2 h⟩
      rcases hs' with ⟨hs', hs2⟩ | ⟨hs', hs2⟩ <;> rcases hc with ⟨hc, hc2⟩ | ⟨hc, hc2⟩
      all_goals
        have HN := Lib.hid (And.intro hs' hc)
        clear hs' hc
        go_enter Try.func55, Try.ntmps55
        go_wp2_with fail
        all_goals
          go_ret
          rw [← HM.out]
          refine ⟨ret_bool ?_, (Below.refl _ _).alloc (Nat.le_refl _) _⟩
          first
            | exact (decide_eq_true ⟨HN.out.1, HN.out.2⟩).symm
            | exact (decide_eq_false (fun h => HN.out.1 h.1)).symm
            | exact (decide_eq_false (fun h => HN.out.2 h.2)).symm
    · have hc : c = 0 ∧ (c == 0) = true ∨ c ≠ 0 ∧ (c == 0) = false := by
        by_cases h : c = 0
        · left; simp [h]
        · right; simp [h]
      have HM := Lib.hid (show decide (nameS s ∧ c = 0) = r by rw [← HR.out, ha]; exact decide_eq_decide.2 (mayK_2 hi1 hi2).symm)
      generalize (a.toNat : Int) = n at *
      clear ha hi
      rcases hc with ⟨hc, hc'⟩ | ⟨hc, hc'⟩ <;> by_cases hn : nameS s
      all_goals
        have HN := Lib.hid (And.intro hn hc)
        clear hn hc
        go_enter Try.func55, Try.ntmps55
        go_wp2_with (go_at_call 66; refine (dName_any _ s hs).mono ?_; rintro e w1 ⟨rfl, rfl⟩; first | rw [decide_eq_true HN.out.1] | rw [decide_eq_false HN.out.1])
        go_ret
        rw [← HM.out]
        refine ⟨ret_bool ?_, (Below.refl _ _).alloc (Nat.le_refl _) _⟩
        first
          | exact (decide_eq_true HN.out).symm
          | exact (decide_eq_false (fun h => HN.out.1 h.1)).symm
          | exact (decide_eq_false (fun h => HN.out.2 h.2)).symm
    · have HM := Lib.hid (show decide (s.toList = [] ∧ 0 ≤ c ∧ c < 8) = r by rw [← HR.out, ha]; exact decide_eq_decide.2 (mayK_3 hi1 hi2).symm)
      generalize (a.toNat : Int) = n at *
      clear ha hi
      have hc : c < 0 ∨ (0 ≤ c ∧ c < 8) ∨ 8 ≤ c := by omega
      have hs' : s.toList = [] ∧ (s.toList == []) = true ∨ ¬ s.toList = [] ∧ (s.toList == []) = false := by
        by_cases h : s.toList = []
        · left; exact ⟨h, by rw [h]; rfl⟩
        · right; exact ⟨h, beq_eq_false_iff_ne.2 h⟩
      rcases hs' with ⟨hs', hs2⟩ | ⟨hs', hs2⟩ <;> rcases hc with hc | hc | hc
      all_goals
        have HN := Lib.hid (And.intro hs' hc)
        clear hs'
        go_enter Try.func55, Try.ntmps55
        go_wp2_with fail
        all_goals
          go_ret
          rw [← HM.out]
          refine ⟨ret_bool ?_, (Below.refl _ _).alloc (Nat.le_refl _) _⟩
          first
            | exact (decide_eq_true ⟨HN.out.1, HN.out.2⟩).symm
            | exact (decide_eq_false (fun h => HN.out.1 h.1)).symm
            | exact (decide_eq_false (fun h => by have := HN.out.2; omega)).symm
            | (have hq := HN.out.2
               rw [decide_eq_false (show ¬ (s.toList = [] ∧ 0 ≤ c ∧ c < 8) from fun h => by omega), decide_eq_false (by omega)])
            | (have hq := HN.out.2
               rw [decide_eq_true (show (s.toList = [] ∧ 0 ≤ c ∧ c < 8) from ⟨HN.out.1, by omega, by omega⟩), decide_eq_true (by omega)])
    · have HM := Lib.hid (show false = r by rw [← HR.out]; exact (decide_eq_false (mayK_4 ha)).symm)
      generalize (a.toNat : Int) = n at *
      clear ha hi
      go_enter Try.func55, Try.ntmps55
      go_wp2_with fail
      go_ret
      exact ⟨ret_bool HM.out, HW.out⟩
  · have HM := Lib.hid (show false = r by rw [← HR.out]; exact (decide_eq_false (mayK_0 hi)).symm)
    have hi' : i < 1 ∨ (1 ≤ i ∧ 65535 < i) := by omega
    clear hi
    generalize (a.toNat : Int) = n at *
    rcases hi' with hi | ⟨hi, hi'⟩
    all_goals
      go_enter Try.func55, Try.ntmps55
      go_wp2_with fail
      go_ret
      exact ⟨ret_bool HM.out, HW.out⟩
end Go.Proofs.Ytegoeagmadhpgaa
