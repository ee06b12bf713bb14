import Derived.Test.YtckpgbkabbddnaaProg
import Derived.Test.YtckpgbkabbddnaaMBase
set_option linter.unusedVariables false
set_option linter.unusedSimpArgs false
/- Layer 2: what a page's Put and Get end in. -/
namespace Go.Proofs.Ytckpgbkabbddnaa
open Go.RowKit

def PutPageEnd (w : World) (r : List UInt8 × Nat) (e : Ending) (w' : World) : Prop :=
  ∃ v, e = .returned (.tuple #[v, .int .i64 (r.2 : Nat)]) ∧ OwnB 5 w' w.heap.size v r.1 ∧ Below w.heap.size w w'
def GetPageEnd (w : World) (r : Nat × List UInt8 × Nat) (e : Ending) (w' : World) : Prop :=
  ∃ v, e = .returned (.tuple #[.int .u8 (r.1 : Nat), v, .int .i64 (r.2.2 : Nat)]) ∧ OwnB 5 w' w.heap.size v r.2.1 ∧ Below w.heap.size w w'
end Go.Proofs.Ytckpgbkabbddnaa
