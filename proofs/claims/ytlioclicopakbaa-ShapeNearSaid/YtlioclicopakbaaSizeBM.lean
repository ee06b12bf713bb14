import Derived.Test.YtlioclicopakbaaProg
import Derived.Test.YtlioclicopakbaaMBase
set_option linter.unusedVariables false
set_option linter.unusedSimpArgs false
/- Layer 2: isSize, Body. -/
namespace Go.Proofs.Ytlioclicopakbaa
open Go.RowKit

theorem pisSize_yes (n : Int) (w : World) (h : 128 ≤ n) (h2 : n ≤ 256) : Calls Try.prog 52 #[.int .i64 n] w fun e w' => e = .returned (.bool true) ∧ w = w' := by
  go_enter Try.func52, Try.ntmps52
  go_wp2
  go_ret
  exact ⟨rfl, rfl⟩
theorem pisSize_no (n : Int) (w : World) (h : ¬ (128 ≤ n ∧ n ≤ 256)) : Calls Try.prog 52 #[.int .i64 n] w fun e w' => e = .returned (.bool false) ∧ w = w' := by
  have hd : n < 128 ∨ decide (n ≤ 256) = false := by
    rcases (show n < 128 ∨ (128 ≤ n ∧ 256 < n) by omega) with h | ⟨h, h2⟩
    · exact .inl h
    · exact .inr (by simp; omega)
  rcases hd with h | h2
  · go_enter Try.func52, Try.ntmps52
    go_wp2
    go_ret
    exact ⟨rfl, rfl⟩
  · have h1 : 128 ≤ n := by simp at h2; omega
    go_enter Try.func52, Try.ntmps52
    go_wp2
    go_ret
    exact ⟨rfl, rfl⟩
theorem body_any (n : Int) (w : World) : Calls Try.prog 42 #[.int .i64 n] w fun e w' => e = .returned (.int .i64 (bodyS n : Nat)) ∧ w = w' := by
  by_cases h : 128 ≤ n ∧ n ≤ 256
  · have hb : bodyS n = n.toNat - 5 := by unfold bodyS; rw [if_pos h]
    have he : (n - 5 : Int) = ((n.toNat - 5 : Nat) : Int) := by omega
    have HB := Lib.hid (And.intro hb he)
    clear hb he
    obtain ⟨h1, h2⟩ := h
    go_enter Try.func42, Try.ntmps42
    go_wp2_with (go_at_call 52; refine (pisSize_yes _ _ h1 h2).mono ?_; rintro e w' ⟨rfl, rfl⟩)
    go_ret
    exact ⟨ret_int (by rw [HB.out.1]; exact HB.out.2), rfl⟩
  · have hb : bodyS n = 0 := by unfold bodyS; rw [if_neg h]
    have HB := Lib.hid hb
    have H := Lib.hid h
    clear hb h
    go_enter Try.func42, Try.ntmps42
    go_wp2_with (go_at_call 52; refine (pisSize_no _ _ H.out).mono ?_; rintro e w' ⟨rfl, rfl⟩)
    go_ret
    exact ⟨by rw [HB.out]; rfl, rfl⟩
end Go.Proofs.Ytlioclicopakbaa
