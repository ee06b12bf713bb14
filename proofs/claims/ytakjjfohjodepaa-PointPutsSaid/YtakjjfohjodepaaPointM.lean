/- Layer 17: contracts of may. -/
import Derived.Test.YtakjjfohjodepaaProg
import Derived.Test.YtakjjfohjodepaaPointS
set_option linter.unusedVariables false
set_option linter.unusedSimpArgs false
namespace Go.Proofs.Ytakjjfohjodepaa
open Go.RowKit

theorem may_any (w : World) (n : Nat) (b p c : Int) (hn : n < 18446744073709551616) :
    Calls Try.prog 20 #[.agg #[.int .u64 (n : Int), .int .i64 b, .int .i64 p, .int .i64 c]] w fun e w' => e = .returned (.bool (decide (mayP n b p c))) ∧ Below w.heap.size w w' := by
  go_enter Try.func20, Try.ntmps20
  go_wp2_with fail
  all_goals
    go_ret
    refine ⟨ret_bool ?_, (Below.refl _ _).alloc (Nat.le_refl _) _⟩
    first
      | exact (decide_eq_false (by unfold mayP; simp at *; omega)).symm
      | exact (decide_eq_true (by unfold mayP; simp at *; omega)).symm
      | (rcases Decidable.em (p = 0) with hp | hp <;> rcases Decidable.em (c = 0) with hc | hc <;> rcases Decidable.em (b = 0) with hb | hb <;> first | (simp_all [mayP]; done) | (simp_all [mayP]; omega) | (exfalso; simp_all; done) | (exfalso; simp_all; omega) | (exfalso; have e1 : (p == 0) = false := beq_eq_false_iff_ne.2 hp; have e2 : (c == 0) = false := beq_eq_false_iff_ne.2 hc; rename_i h; rw [e1, e2] at h; cases h))
end Go.Proofs.Ytakjjfohjodepaa
