import Derived.Test.YtdagdjaefgadfaaEndsM
import Derived.Test.YtdagdjaefgadfaaAppM
set_option linter.unusedVariables false
set_option linter.unusedSimpArgs false
/- One byte laid as a literal; what Put and Row answer. -/
namespace Go.Proofs.Ytdagdjaefgadfaa
open Go.RowKit

theorem alloc_size (w : World) (o : Obj) : (w.alloc o).heap.size = w.heap.size + 1 := by simp

def PutEnd (w : World) (xs : List UInt8) (e : Ending) (w' : World) : Prop :=
  ∃ v, e = .returned (.tuple #[v, .int .i64 0]) ∧ OwnB 5 w' w.heap.size v xs ∧ Below w.heap.size w w'

/-- One byte that was laid as a literal. -/
theorem own_lit1 (w : World) (e : TypeId) (n : Nat) (hn : n < 256) : OwnB e (w.alloc (.cells #[.int .u8 (n : Int)] e)) w.heap.size (.slice (some ⟨w.heap.size, 0, none⟩) 1 1) [UInt8.ofNat n] := by
  have h := RowB.new w e [UInt8.ofNat n]
  have e1 : (bv [UInt8.ofNat n]).toArray = #[.int .u8 (n : Int)] := by
    simp [bv]
    omega
  rw [e1] at h
  exact OwnB.whole (Nat.le_refl _) h (by simp [maxLen])

end Go.Proofs.Ytdagdjaefgadfaa
