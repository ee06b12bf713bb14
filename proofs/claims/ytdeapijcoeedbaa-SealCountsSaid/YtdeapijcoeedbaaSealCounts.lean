/- SealCounts: the walk. -/
import Derived.Test.YtdeapijcoeedbaaWorks02
import Derived.Test.YtdeapijcoeedbaaSealD
set_option linter.unusedVariables false
set_option linter.unusedSimpArgs false
namespace Go.Proofs.Ytdeapijcoeedbaa
open Go.RowKit

set_option maxRecDepth 100000 in
set_option maxHeartbeats 1000000 in
theorem walkSealCounts (w : World) (A : Option Addr) (ca : Nat) (a : List UInt8) (ha : RV w A (bv a)) (hA : a.length ≤ 140737488351232) (B : Option Addr) (cb : Nat) (b : List UInt8) (hb : RV w B (bv b)) (hB : b.length ≤ 140737488351232) :
    Calls Try.prog 7 #[.slice A a.length ca, .slice B b.length cb] w fun e w' => e = .returned (.bool true) ∧ Below w.heap.size w w' := by
  have la : a.length ≤ maxLen := by unfold maxLen; omega
  have lb : b.length ≤ maxLen := by unfold maxLen; omega
  have n1 := noughts_any A ca a w ha (by omega)
  have n2 := dNoughts_any A ca a w ha (by omega)
  have b1 := blank_any A ca a w ha la
  have b2 := dBlank_any A ca a w ha (by omega)
  have l1 := less_any A ca a B cb b w ha hb la lb
  have l2 := dLess_any A ca a B cb b w ha hb la lb
  generalize noughts a = n at *
  generalize decide (blankS a) = bl at *
  generalize decide (lessS a b) = le at *
  have HH := Lib.hid (And.intro n1 (And.intro n2 (And.intro b1 (And.intro b2 (And.intro l1 l2)))))
  clear n1 n2 b1 b2 l1 l2 ha hb la lb
  generalize a.length = na at *
  generalize b.length = nb at *
  go_enter Try.func7, Try.ntmps7
  go_wp2_with (first
    | (go_at_call 20; refine HH.out.1.mono ?_; rintro e w' ⟨rfl, rfl⟩)
    | (go_at_call 21; refine HH.out.2.1.mono ?_; rintro e w' ⟨rfl, rfl⟩)
    | (go_at_call 22; refine HH.out.2.2.1.mono ?_; rintro e w' ⟨rfl, rfl⟩)
    | (go_at_call 23; refine HH.out.2.2.2.1.mono ?_; rintro e w' ⟨rfl, rfl⟩)
    | (go_at_call 24; refine HH.out.2.2.2.2.1.mono ?_; rintro e w' ⟨rfl, rfl⟩)
    | (go_at_call 25; refine HH.out.2.2.2.2.2.mono ?_; rintro e w5 ⟨rfl, hd5⟩; have H5 := Lib.hid hd5; clear hd5)
    | (go_at_call 16; refine (works_any _).mono ?_; rintro e w9 ⟨rfl, hb9⟩; have H9 := Lib.hid hb9; clear hb9))
  go_ret
  exact ⟨rfl, below_then (H5.out.below _) (H5.out.below 0).size H9.out⟩
end Go.Proofs.Ytdeapijcoeedbaa
