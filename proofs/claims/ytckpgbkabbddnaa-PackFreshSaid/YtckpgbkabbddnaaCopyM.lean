import Derived.Test.YtckpgbkabbddnaaMApp
import Derived.Test.YtckpgbkabbddnaaMBase
set_option linter.unusedVariables false
set_option linter.unusedSimpArgs false
/- What the statements share: Copy, Wide, Spoil, Left; the document's row of bytes. -/
namespace Go.Proofs.Ytckpgbkabbddnaa
open Go.RowKit

def OwnEnd (w : World) (xs : List UInt8) (e : Ending) (w' : World) : Prop :=
  ∃ v, e = .returned v ∧ OwnB 5 w' w.heap.size v xs ∧ Below w.heap.size w w'

set_option maxHeartbeats 400000 in
theorem copy_any (w : World) (A : Option Addr) (c : Nat) (xs : List UInt8) (hr : RV w A (bv xs)) (hx : xs.length ≤ 140737488355328) :
    Calls Try.prog 40 #[.slice A xs.length c] w (OwnEnd w xs) := by
  have HR := Lib.hid hr
  clear hr
  go_enter Try.func40, Try.ntmps40
  go_wp2_with (at_builtin; refine wpList_appB _ rfl _ _ 28 rfl w.heap.size 5 Try.underlying28 u8info (.slice none 0 0) [] rfl (OwnB.nil _ _ _) A xs.length c xs rfl rfl HR.out (by simpa using hx) (Nat.le_refl _) ?_)
  intro v w1 hown hg _
  have HX := Lib.hid (And.intro (show OwnB 5 w1 w.heap.size v xs from hown) (grown_none hg))
  clear hown hg
  go_wp2
  go_ret
  exact ⟨v, rfl, HX.out.1, HX.out.2⟩
end Go.Proofs.Ytckpgbkabbddnaa
