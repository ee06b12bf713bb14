/- SealPuts: the walk. -/
import Derived.Test.YtdeapijcoeedbaaWorks02
import Derived.Test.YtdeapijcoeedbaaSealF
import Derived.Test.YtdeapijcoeedbaaSealB
import Derived.Test.YtdeapijcoeedbaaSameK
set_option linter.unusedVariables false
set_option linter.unusedSimpArgs false
namespace Go.Proofs.Ytdeapijcoeedbaa
open Go.RowKit

set_option maxRecDepth 100000 in
set_option maxHeartbeats 1000000 in
theorem walkSealPuts (w : World) (s : Int) (ws : (Lit.int .i64 s).wf = true) (x1 : Int) (wk : (Lit.int .u8 x1).wf = true) (A : Option Addr) (c : Nat) (body : List UInt8) (hr : RV w A (bv body)) (hR : body.length ≤ 140737488351232) :
    Calls Try.prog 3 #[.int .i64 s, .int .u8 x1, .slice A body.length c] w fun e w' => e = .returned (.bool true) ∧ Below w.heap.size w w' := by
  obtain ⟨kind, rfl⟩ := u8_byte wk
  have HR := Lib.hid (And.intro hr (show body.length ≤ maxLen by unfold maxLen; omega))
  clear hr ws wk
  go_enter Try.func3, Try.ntmps3
  go_wp2_with fail
  refine (putPage_any w s kind A c body HR.out.1 HR.out.2).mono ?_
  rintro e w1 ⟨v1, rfl, ho1, hb1⟩
  have H1 := Lib.hid (And.intro ho1 hb1)
  clear ho1 hb1
  go_wp2_with fail
  refine (dPut_any w1 s kind A c body (HR.out.1.below H1.out.2) HR.out.2).mono ?_
  rintro e w2 ⟨v2, rfl, ho2, hb2⟩
  have hc := putPageS_code s kind body
  generalize putPageS s kind body = r at *
  obtain ⟨x, n⟩ := r
  dsimp only at hc ho2 ⊢
  have H2 := Lib.hid (And.intro (H1.out.1.below hb2) (And.intro ho2 (below_then H1.out.2 H1.out.2.size hb2)))
  clear ho2 hb2
  generalize hbd : bodyS s = bd
  have HB := Lib.hid hbd
  clear hbd
  go_wp2_with (first
    | (go_at_call 13; refine (same_oo w2 _ _ v1 v2 x x H2.out.1 H2.out.2.1).mono ?_; rintro e w3 ⟨rfl, hd3⟩; rw [decide_eq_true rfl]; have H3 := Lib.hid hd3; clear hd3)
    | (go_at_call 14; refine (body_any _ _).mono ?_; rintro e w' ⟨rfl, rfl⟩; rw [HB.out])
    | (go_at_call 15; refine (dBody_any _ _).mono ?_; rintro e w' ⟨rfl, rfl⟩; rw [HB.out])
    | (go_at_call 16; refine (works_any _).mono ?_; rintro e w9 ⟨rfl, hb9⟩; have H9 := Lib.hid hb9; clear hb9))
  go_ret
  exact ⟨rfl, below_then (H2.out.2.2.trans (H3.out.below _)) (H2.out.2.2.trans (H3.out.below _)).size H9.out⟩
end Go.Proofs.Ytdeapijcoeedbaa
