/- SealGets: the walk. -/
import Derived.Test.YtdeapijcoeedbaaWorks02
import Derived.Test.YtdeapijcoeedbaaSealE
import Derived.Test.YtdeapijcoeedbaaSealB
import Derived.Test.YtdeapijcoeedbaaSameK
set_option linter.unusedVariables false
set_option linter.unusedSimpArgs false
namespace Go.Proofs.Ytdeapijcoeedbaa
open Go.RowKit

set_option maxRecDepth 100000 in
set_option maxHeartbeats 1000000 in
theorem walkSealGets (w : World) (A : Option Addr) (c : Nat) (b : List UInt8) (hr : RV w A (bv b)) (hl : b.length ≤ c) (hm : c ≤ maxLen) :
    Calls Try.prog 4 #[.slice A b.length c] w fun e w' => e = .returned (.bool true) ∧ Below w.heap.size w w' := by
  have HR := Lib.hid (And.intro hr (And.intro hl hm))
  clear hr hl hm
  go_enter Try.func4, Try.ntmps4
  go_wp2_with fail
  refine (getPage_any w A c b HR.out.1 HR.out.2.1 HR.out.2.2).mono ?_
  rintro e w1 ⟨v1, rfl, ho1, hb1⟩
  have H1 := Lib.hid (And.intro ho1 hb1)
  clear ho1 hb1
  go_wp2_with fail
  refine (dGet_any w1 A c b (HR.out.1.below H1.out.2) HR.out.2.1 HR.out.2.2).mono ?_
  rintro e w2 ⟨v2, rfl, ho2, hb2⟩
  have hc := getS_code b
  generalize getS b = r at *
  obtain ⟨k, x, n⟩ := r
  dsimp only at hc ho2 ⊢
  have H2 := Lib.hid (And.intro (H1.out.1.below hb2) (And.intro ho2 (below_then H1.out.2 H1.out.2.size hb2)))
  clear ho2 hb2
  go_wp2_with (go_at_call 13; refine (same_oo w2 _ _ v1 v2 x x H2.out.1 H2.out.2.1).mono ?_; rintro e w3 ⟨rfl, hd3⟩; rw [decide_eq_true rfl]; have H3 := Lib.hid hd3; clear hd3)
  refine (works_any _).mono ?_
  rintro e w9 ⟨rfl, hb9⟩
  have H9 := Lib.hid hb9
  clear hb9
  go_wp2_with fail
  go_ret
  exact ⟨rfl, below_then (H2.out.2.2.trans (H3.out.below _)) (H2.out.2.2.trans (H3.out.below _)).size H9.out⟩
end Go.Proofs.Ytdeapijcoeedbaa
