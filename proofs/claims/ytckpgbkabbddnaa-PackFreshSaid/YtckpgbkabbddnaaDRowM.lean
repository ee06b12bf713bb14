import Derived.Test.YtckpgbkabbddnaaMPut
import Derived.Test.YtckpgbkabbddnaaMBase
set_option linter.unusedVariables false
set_option linter.unusedSimpArgs false
/- The document's row of bytes. -/
namespace Go.Proofs.Ytckpgbkabbddnaa
open Go.RowKit

set_option maxHeartbeats 400000 in
theorem dRow_at (w : World) (A : Option Addr) (n c : Nat) (xs : List UInt8) (hn : xs.length = n) (hr : RV w A (bv xs)) (hx : n ≤ 255) :
    Calls Try.prog 66 #[.slice A n c] w (PutEnd w (UInt8.ofNat n :: xs)) := by
  subst hn
  have HR := Lib.hid hr
  clear hr
  go_enter Try.func66, Try.ntmps66
  go_wp2_with (at_builtin; refine wpList_appB _ rfl _ _ 28 rfl w.heap.size 5 Try.underlying28 u8info (.slice (some ⟨w.heap.size, 0, none⟩) 1 1) [UInt8.ofNat xs.length] rfl (own_lit1 w _ _ (by omega)) A xs.length c xs rfl rfl (HR.out.alloc _) (by simp; omega) (by simp) ?_)
  intro v w3 hown hg3 _
  have HX := Lib.hid (And.intro hown hg3)
  clear hown hg3
  go_wp2
  go_ret2
  obtain ⟨hown, hg3⟩ := HX.out
  exact ⟨v, rfl, hown, grown_new (grown_trans (World.grownBy_alloc _ _ _) hg3) (Nat.le_refl _)⟩
end Go.Proofs.Ytckpgbkabbddnaa
