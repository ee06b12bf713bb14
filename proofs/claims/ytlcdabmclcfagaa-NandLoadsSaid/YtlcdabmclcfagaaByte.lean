/- Bytes in this program's table. -/
import Derived.Test.YtlcdabmclcfagaaProg
import Derived.Test.YtlcdabmclcfagaaMem
set_option linter.unusedVariables false
set_option linter.unusedSimpArgs false
namespace Go.Proofs.Ytlcdabmclcfagaa
open Go.RowKit

theorem u8info : (Try.prog.info? 5).map (fun i => (i.zero, i.size, i.bytes)) = some (some (.int .u8 0), 1, 1) := by kernel_rfl

theorem set_take {α : Type} {l m : List α} {j : Nat} {b : α} (h : l.take j = m.take j) (hj : j < l.length) (hm : m[j]? = some b) : (l.set j b).take (j + 1) = m.take (j + 1) := by
  rw [List.take_add_one, List.take_add_one, hm, List.take_set_of_le (Nat.le_refl j), h, List.getElem?_set_self hj]
end Go.Proofs.Ytlcdabmclcfagaa
