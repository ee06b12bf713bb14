import Derived.Test.YtlcdabmclcfagaaMBase
set_option linter.unusedVariables false
set_option linter.unusedSimpArgs false
/- A slice of the call's own that is not empty. -/
namespace Go.Proofs.Ytlcdabmclcfagaa
open Go.RowKit

theorem own_some {e : TypeId} {w : World} {base : Nat} {v : Value} {xs : List UInt8} (h : OwnB e w base v xs) (h0 : 0 < xs.length) :
    ∃ g full, v = .slice (some ⟨g, 0, none⟩) xs.length full.length ∧ base ≤ g ∧ RowB e w g full ∧ full.take xs.length = xs ∧ full.length ≤ maxLen := by
  rcases h with ⟨_, rfl⟩ | h
  · simp at h0
  · exact h
theorem taken_get {full xs : List UInt8} (h : full.take xs.length = xs) {j : Nat} {b : UInt8} (hj : xs[j]? = some b) : full[j]? = some b := by
  have hl := (List.getElem?_eq_some_iff.1 hj).1
  rw [← h, List.getElem?_take, if_pos hl] at hj
  exact hj

end Go.Proofs.Ytlcdabmclcfagaa
