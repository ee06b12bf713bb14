/- Layer 2, plain: one byte more. -/
import Derived.Test.YtakjjfohjodepaaSealS
namespace Go.Proofs.Ytakjjfohjodepaa
theorem noughts_take {l : List UInt8} {j : Nat} (h : j < l.length) : noughts (l.take (j + 1)) = noughts (l.take j) + zeros l[j] := by
  rw [List.take_add_one, List.getElem?_eq_getElem h, noughts_append]
  rfl
end Go.Proofs.Ytakjjfohjodepaa
