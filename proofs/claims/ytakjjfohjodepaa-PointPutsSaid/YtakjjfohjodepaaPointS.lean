/- Layer 17, plain: what a point may be, its bytes. -/
import Derived.Test.YtakjjfohjodepaaMem
set_option linter.unusedVariables false
set_option linter.unusedSimpArgs false
namespace Go.Proofs.Ytakjjfohjodepaa

/-- May a point be? -/
def mayP (n : Nat) (b p c : Int) : Prop := 1 ≤ n ∧ 0 ≤ c ∧ c ≤ 65535 ∧ 0 ≤ b ∧ b ≤ 255 ∧ 0 ≤ p ∧ p ≤ 255 ∧ (c = 0 ↔ p = 0) ∧ (c = 0 → b = 0)
instance (n : Nat) (b p c : Int) : Decidable (mayP n b p c) := by unfold mayP; exact inferInstance
end Go.Proofs.Ytakjjfohjodepaa
