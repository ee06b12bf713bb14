import Derived.Test.YtdagdjaefgadfaaMSame
import Derived.Test.YtdagdjaefgadfaaMBase
set_option linter.unusedVariables false
set_option linter.unusedSimpArgs false
/- Are bytes as they were made, the room behind them, too? -/
namespace Go.Proofs.Ytdagdjaefgadfaa
open Go.RowKit

set_option maxHeartbeats 1000000 in
theorem left_yes (w : World) (g : Nat) (B : Option Addr) (d : Nat) (xs : List UInt8) (hr : RowB 5 w g (xs ++ [7, 7, 7])) (hb : RV w B (bv xs)) (hx : xs.length ≤ 140737488355328) :
    Calls Try.prog 18 #[.slice (some ⟨g, 0, none⟩) xs.length (xs.length + 3), .slice B xs.length d] w fun e w' => e = .returned (.bool true) ∧ Drawn w w' := by
  have hrv : RV w (some ⟨g, 0, none⟩) (bv xs) := by
    have := hr.rv.take xs.length
    rwa [← bv_take, List.take_left] at this
  have hcall := same_any (some ⟨g, 0, none⟩) B (xs.length + 3) d xs xs w hrv hb (by unfold maxLen; omega) (by unfold maxLen; omega)
  rw [decide_eq_true rfl] at hcall
  have HC := Lib.hid hcall
  have HR := Lib.hid hr
  clear hrv hcall hr hb
  go_enter Try.func18, Try.ntmps18
  go_wp2_with (go_at_call 20; refine HC.out.mono ?_; rintro e w1 ⟨rfl, hd⟩; have HD := Lib.hid hd; clear hd)
  go_loopg [6] 3 (fun k i wr => ∃ j : Nat, j + k = 3 ∧ i = .int .i64 ((xs.length : Int) + j) ∧ wr = w1)
  case atStart => exact ⟨0, rfl, by simp, rfl⟩
  case round =>
    obtain ⟨j, hj, rfl, rfl⟩ := hrel
    have HJ := Lib.hid hj
    clear hj
    by_cases hlt : j < 3
    · have h7 : (xs ++ [7, 7, 7])[xs.length + j]? = some 7 := by
        rw [List.getElem?_append_right (by omega)]
        have : xs.length + j - xs.length = j := by omega
        rw [this]
        match j, hlt with
        | 0, _ => rfl
        | 1, _ => rfl
        | 2, _ => rfl
      have hc := (HR.out.belowAll (HD.out.below _)).cell h7
      have e7 : (((7 : UInt8).toNat : Nat) : Int) = 7 := rfl
      rw [e7] at hc
      clear h7 e7
      go_wp2_with fail
      go_roundg (3 - (j + 1))
      case measure => have := HJ.out; omega
      case rel => exact ⟨j + 1, by have := HJ.out; omega, by go_num, rfl⟩
    · obtain rfl : j = 3 := by have := HJ.out; omega
      go_wp2_with fail
      go_ret
      exact ⟨rfl, HD.out⟩
end Go.Proofs.Ytdagdjaefgadfaa
