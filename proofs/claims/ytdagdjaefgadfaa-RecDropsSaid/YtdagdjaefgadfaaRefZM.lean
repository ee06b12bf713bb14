import Derived.Test.YtdagdjaefgadfaaApp1M
import Derived.Test.YtdagdjaefgadfaaRdRM
set_option linter.unusedVariables false
set_option linter.unusedSimpArgs false
/- The document's sizes. -/
namespace Go.Proofs.Ytdagdjaefgadfaa
open Go.RowKit

/-! ### Size, Put -/
theorem size_yes (n : Int) (w : World) (h : IsSz n) : Calls Try.prog 52 #[.int .i64 n] w fun e w' => e = .returned (.bool true) ∧ w = w' := by
  rcases h with rfl | rfl | rfl | rfl <;>
  · go_enter Try.func52, Try.ntmps52
    go_wp2
    go_ret
    exact ⟨rfl, rfl⟩
theorem size_no (n : Int) (w : World) (h : ¬ IsSz n) : Calls Try.prog 52 #[.int .i64 n] w fun e w' => e = .returned (.bool false) ∧ w = w' := by
  unfold IsSz at h
  have h1 : (n == 1) = false := by simp; omega
  have h2 : (n == 2) = false := by simp; omega
  have h4 : (n == 4) = false := by simp; omega
  have h8 : (n == 8) = false := by simp; omega
  clear h
  go_enter Try.func52, Try.ntmps52
  go_wp2
  go_ret
  exact ⟨rfl, rfl⟩
end Go.Proofs.Ytdagdjaefgadfaa
