/- wpAnyG where two operations may come up. -/
import Derived.Test.YtlcdabmclcfagaaOrdG
set_option linter.unusedVariables false
set_option linter.unusedSimpArgs false
namespace Go.Proofs.Ytlcdabmclcfagaa
open Go.RowKit

section
variable {P : Program} {Q : Exit → Act → World → Prop} {md : Region.Mode} {S : World → Prop} {n : Nat}
theorem wpAnyG_twoL {l ri rj : List Oper} {i j : Nat} {oi oj : Oper} {fuel : Nat} {listed li lj : Array Bool} {a : Act} {w : World} (hi : l.drop i = oi :: ri) (hj : l.drop j = oj :: rj) (hr : Region.ready md l.toArray listed = [i, j])
    (hwi : Region.wanted oi (yielded l.toArray a.tmps) = true) (hwj : Region.wanted oj (yielded l.toArray a.tmps) = true) (hli : listed.setIfInBounds i true = li) (hlj : listed.setIfInBounds j true = lj)
    (h1 : ∀ K : Act → World → Prop, (∀ a' w', (S w' ∨ n ≤ i) → wpAnyG P md l.toArray Q S n fuel li a' w' → K a' w') → Oper.wp P oi a w K Q)
    (h2 : ∀ K : Act → World → Prop, (∀ a' w', (S w' ∨ n ≤ j) → wpAnyG P md l.toArray Q S n fuel lj a' w' → K a' w') → Oper.wp P oj a w K Q) : wpAnyG P md l.toArray Q S n (fuel + 1) listed a w := by
  subst hli
  subst hlj
  have e1 : l.toArray[i]? = some oi := by
    rw [List.getElem?_toArray]
    have := congrArg List.head? hi
    rwa [List.head?_drop] at this
  have e2 : l.toArray[j]? = some oj := by
    rw [List.getElem?_toArray]
    have := congrArg List.head? hj
    rwa [List.head?_drop] at this
  refine ⟨fun h0 => (by rw [hr] at h0; cases h0), fun k hk => ?_⟩
  rw [hr] at hk
  simp only [List.mem_cons, List.not_mem_nil, or_false] at hk
  rcases hk with rfl | rfl
  · unfold wpOp
    simp only [e1, hwi, if_true]
    exact .inl (h1 _ fun a' w' h3 h4 => ⟨h3, h4⟩)
  · unfold wpOp
    simp only [e2, hwj, if_true]
    exact .inl (h2 _ fun a' w' h3 h4 => ⟨h3, h4⟩)
end
end Go.Proofs.Ytlcdabmclcfagaa
