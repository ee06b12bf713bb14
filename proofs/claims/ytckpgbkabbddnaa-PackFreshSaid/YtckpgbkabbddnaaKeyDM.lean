import Derived.Deep.QuietTactic
import Derived.BigQuiet
import Derived.Test.YtckpgbkabbddnaaProg
import Derived.Test.YtckpgbkabbddnaaMBase
import Derived.Test.YtckpgbkabbddnaaKeyNM
set_option linter.unusedVariables false
set_option linter.unusedSimpArgs false
/- The document's order of texts and keys: contracts. -/
namespace Go.Proofs.Ytckpgbkabbddnaa
open Go.RowKit

theorem bless_prefix (p x y : List UInt8) : Op.bytesLess (p ++ x) (p ++ y) = Op.bytesLess x y := by
  induction p with
  | nil => rfl
  | cons a p ih =>
    simp only [List.cons_append, Op.bytesLess, ih]
    have : decide (a < a) = false := decide_eq_false (by rw [u8_lt]; omega)
    rw [this]
    simp
theorem split_at {x y : List UInt8} {j : Nat} (h : x.take j = y.take j) : Op.bytesLess x y = Op.bytesLess (x.drop j) (y.drop j) ∧ (x = y ↔ x.drop j = y.drop j) := by
  have e1 := List.take_append_drop j x
  have e2 := List.take_append_drop j y
  refine ⟨?_, fun e => by rw [e], fun e => by rw [← e1, ← e2, h, e]⟩
  rw [← e1, ← e2, h, bless_prefix]
  rw [e2, ← h, e1]
def OrderEnd (s t : ByteArray) (w : World) (e : Ending) (w' : World) : Prop :=
  ∃ n : Int, e = .returned (.int .i64 n) ∧ (n < 0 ↔ Op.bytesLess s.toList t.toList = true) ∧ (n = 0 ↔ s = t) ∧ Drawn w w'
theorem order_diff {s t : ByteArray} {j : Nat} (h : s.data.toList.take j = t.data.toList.take j) (hs : j < s.size) (ht : j < t.size) (hne : ((s[j].toNat : Int) != (t[j].toNat : Int)) = true) :
    ((s[j].toNat : Int) - (t[j].toNat : Int) < 0 ↔ Op.bytesLess s.toList t.toList = true) ∧ ((s[j].toNat : Int) - (t[j].toNat : Int) = 0 ↔ s = t) := by
  have hne' : s[j].toNat ≠ t[j].toNat := fun e => by rw [e] at hne; simp at hne
  obtain ⟨h1, h2⟩ := split_at h
  have e1 : s.data.toList.drop j = s[j] :: s.data.toList.drop (j + 1) := List.drop_eq_getElem_cons (by rw [str_len]; exact hs)
  have e2 : t.data.toList.drop j = t[j] :: t.data.toList.drop (j + 1) := List.drop_eq_getElem_cons (by rw [str_len]; exact ht)
  rw [ByteArray.toList_eq, ByteArray.toList_eq, h1, e1, e2]
  constructor
  · simp only [Op.bytesLess, Bool.or_eq_true, decide_eq_true_eq, Bool.and_eq_true, beq_iff_eq, u8_lt]
    constructor
    · intro hh; left; omega
    · rintro (hh | ⟨hh, _⟩)
      · omega
      · rw [hh] at hne'; exact absurd rfl hne'
  · constructor
    · intro hh; omega
    · intro hh
      subst hh
      exact absurd rfl hne'
theorem order_len {s t : ByteArray} {j : Nat} (h : s.data.toList.take j = t.data.toList.take j) (hj : j = s.size ∨ j = t.size) (h1 : j ≤ s.size) (h2 : j ≤ t.size) :
    ((s.size : Int) - (t.size : Int) < 0 ↔ Op.bytesLess s.toList t.toList = true) ∧ ((s.size : Int) - (t.size : Int) = 0 ↔ s = t) := by
  obtain ⟨h3, h4⟩ := split_at h
  rw [ByteArray.toList_eq, ByteArray.toList_eq, h3]
  have l1 : (s.data.toList.drop j).length = s.size - j := by rw [List.length_drop, str_len]
  have l2 : (t.data.toList.drop j).length = t.size - j := by rw [List.length_drop, str_len]
  have hst : s = t ↔ s.data.toList.drop j = t.data.toList.drop j := by
    rw [← h4]
    exact ⟨fun e => by rw [e], fun e => ByteArray.ext (Array.toList_inj.1 e)⟩
  rw [hst]
  generalize s.data.toList.drop j = x at *
  generalize t.data.toList.drop j = y at *
  cases x with
  | nil =>
    cases y with
    | nil => simp at l1 l2; simp [Op.bytesLess]; omega
    | cons b y => simp at l1 l2; simp [Op.bytesLess]; omega
  | cons a x =>
    cases y with
    | nil => simp at l1 l2; simp [Op.bytesLess]; omega
    | cons b y => simp at l1 l2; omega

set_option maxRecDepth 100000 in
set_option maxHeartbeats 1000000 in
theorem dOrder_any (w : World) (s t : ByteArray) (hs : s.size ≤ maxLen) (ht : t.size ≤ maxLen) : Calls Try.prog 61 #[.string s, .string t] w (OrderEnd s t w) := by
  unfold maxLen at hs ht
  go_enter Try.func61, Try.ntmps61
  go_wp2_with fail
  go_loopg [5] s.size (fun k i wr => ∃ j n : Nat, j + k = s.size ∧ i = .int .i64 j ∧ wr = w.drewN n ∧ j ≤ t.size ∧ s.data.toList.take j = t.data.toList.take j)
  case atStart => exact ⟨0, 0, by omega, rfl, rfl, Nat.zero_le _, rfl⟩
  case round =>
    obtain ⟨j, n, hj, rfl, rfl, hjt, heq⟩ := hrel
    have HX := Lib.hid (And.intro hj heq)
    clear hj heq
    by_cases h1 : j < s.size
    · by_cases h2 : j < t.size
      · have g1 : (j : Int) < (s.size : Int) := by omega
        have g2 : (j : Int) < (t.size : Int) := by omega
        have b1 := s[j].toNat_lt
        have b2 := t[j].toNat_lt
        by_cases he : s[j].toNat = t[j].toNat
        · have hne : ((s[j].toNat : Int) != (t[j].toNat : Int)) = false := by rw [he]; simp
          have hnx : s.data.toList.take (j + 1) = t.data.toList.take (j + 1) := by
            rw [List.take_add_one, List.take_add_one, HX.out.2, List.getElem?_eq_getElem (by rw [str_len]; exact h1), List.getElem?_eq_getElem (by rw [str_len]; exact h2)]
            have e2 : s.data.toList[j]'(by rw [str_len]; exact h1) = t.data.toList[j]'(by rw [str_len]; exact h2) := UInt8.toNat.inj he
            rw [e2]
          have HN := Lib.hid hnx
          clear hnx he
          go_wp2_with fail
          go_quiet (fail)
          rw [World.drewN_drewN]
          generalize n + nq = nB
          go_wp2_with fail
          go_roundg (s.size - (j + 1))
          case measure => have := HX.out.1; omega
          case rel => exact ⟨j + 1, nB, by have := HX.out.1; omega, by go_num, rfl, by omega, HN.out⟩
        · have hne : ((s[j].toNat : Int) != (t[j].toNat : Int)) = true := by simp; omega
          have HF := Lib.hid (order_diff HX.out.2 h1 h2 hne)
          have i1 : IntKind.i64.wrap (s[j].toNat : Int) = (s[j].toNat : Int) := IntWalk.i64_in _ (by omega)
          have i2 : IntKind.i64.wrap (t[j].toNat : Int) = (t[j].toNat : Int) := IntWalk.i64_in _ (by omega)
          have i3 : IntKind.i64.wrap ((s[j].toNat : Int) - (t[j].toNat : Int)) = (s[j].toNat : Int) - (t[j].toNat : Int) := IntWalk.i64_in _ (by omega)
          clear he
          go_wp2_with fail
          go_quiet (fail)
          rw [World.drewN_drewN]
          generalize n + nq = nB
          clear nq
          go_wp2_with fail
          go_quiet (fail)
          rw [World.drewN_drewN]
          generalize nB + nq = nC
          go_wp2_with fail
          go_ret
          exact ⟨_, rfl, HF.out.1, HF.out.2, Drawn.mk w nC⟩
      · have hjt' : j = t.size := by omega
        have g1 : (j : Int) < (s.size : Int) := by omega
        have g2 : ¬ (j : Int) < (t.size : Int) := by omega
        have HF := Lib.hid (order_len HX.out.2 (.inr hjt') (by omega) hjt)
        have i3 : IntKind.i64.wrap ((s.size : Int) - (t.size : Int)) = (s.size : Int) - (t.size : Int) := IntWalk.i64_in _ (by omega)
        clear hjt'
        go_wp2_with fail
        go_ret
        exact ⟨_, rfl, HF.out.1, HF.out.2, Drawn.mk w n⟩
    · have hjs : j = s.size := by have := HX.out.1; omega
      have g1 : ¬ (j : Int) < (s.size : Int) := by omega
      have HF := Lib.hid (order_len HX.out.2 (.inl hjs) (by omega) hjt)
      clear hjs
      go_wp2_with fail
      go_ret
      exact ⟨_, rfl, HF.out.1, HF.out.2, Drawn.mk w n⟩
end Go.Proofs.Ytckpgbkabbddnaa
