/- EndsPuts: the walk. -/
import Derived.Test.YtljnhcoeeloadaaPutAny
import Derived.Test.YtljnhcoeeloadaaWorks01
set_option linter.unusedVariables false
set_option linter.unusedSimpArgs false
namespace Go.Proofs.Ytljnhcoeeloadaa
open Go.RowKit

set_option maxHeartbeats 1000000 in
theorem walkEndsPuts (w : World) (x0 : Int) (w0 : (Lit.int .u64 x0).wf = true) (x1 : Int) (w1 : (Lit.int .i64 x1).wf = true) (A : Option Addr) (c : Nat) (xs : List UInt8) (hr : RV w A (bv xs)) (hR : xs.length ≤ 140737488351232) :
    Calls Try.prog 6 #[.int .u64 x0, .int .i64 x1, .slice A xs.length c] w fun e w' => e = .returned (.bool true) ∧ Below w.heap.size w w' := by
  obtain ⟨n, rfl, hn⟩ := u64_nat w0
  have HN := Lib.hid hn
  have HR := Lib.hid (And.intro hr (show xs.length ≤ maxLen by unfold maxLen; omega))
  clear hn w0 w1 hr hR
  go_enter Try.func6, Try.ntmps6
  go_wp2_with fail
  refine (put_any w n x1 HN.out).mono ?_
  rintro e w1 ⟨v1, rfl, ho1, hb1⟩
  generalize hp : putS n x1 = p at *
  have H1 := Lib.hid (And.intro hp (And.intro ho1 hb1))
  clear hp ho1 hb1
  go_wp2_with fail
  refine (rput_all w1 n x1 HN.out).mono ?_
  rintro e w2 ⟨v2, rfl, ho2, hb2⟩
  rw [H1.out.1] at ho2 ⊢
  have H2 := Lib.hid (And.intro ho2 hb2)
  clear ho2 hb2
  go_wp2_with fail
  refine (putRow_any w2 A c xs (HR.out.1.below (below_then H1.out.2.2 H1.out.2.2.size H2.out.2)) HR.out.2).mono ?_
  rintro e w3 ⟨v3, rfl, ho3, hb3⟩
  generalize hq : rowPutS xs = q at *
  have H3 := Lib.hid (And.intro hq (And.intro ho3 hb3))
  clear hq ho3 hb3
  go_wp2_with fail
  refine (rputRow_any w3 A c xs (HR.out.1.below (below_then (below_then H1.out.2.2 H1.out.2.2.size H2.out.2) (Nat.le_trans H1.out.2.2.size H2.out.2.size) H3.out.2.2)) HR.out.2).mono ?_
  rintro e w4 ⟨v4, rfl, ho4, hb4⟩
  rw [H3.out.1] at ho4 ⊢
  have H4 := Lib.hid (And.intro ho4 hb4)
  clear ho4 hb4
  go_wp2_with fail
  have b24 : Below w2.heap.size w2 w4 := below_then H3.out.2.2 H3.out.2.2.size H4.out.2
  have o1 := (H1.out.2.1.below H2.out.2).below b24
  have o2 := H2.out.1.below b24
  refine (same_own w4 _ _ v1 v2 p.1 o1 o2).mono ?_
  rintro e w5 ⟨rfl, hd5⟩
  have H5 := Lib.hid hd5
  clear hd5 o1 o2 b24
  go_wp2_with fail
  refine (same_own w5 _ _ v3 v4 q.1 ((H3.out.2.1.below H4.out.2).drawn H5.out) (H4.out.1.drawn H5.out)).mono ?_
  rintro e w6 ⟨rfl, hd6⟩
  have H6 := Lib.hid hd6
  clear hd6
  go_wp2_with fail
  refine (works_any w6).mono ?_
  rintro e w7 ⟨rfl, hb7⟩
  have H7 := Lib.hid hb7
  clear hb7
  go_wp2_with fail
  go_ret
  have b1 := H1.out.2.2
  have b2 := below_then b1 b1.size H2.out.2
  have b3 := below_then b2 b2.size H3.out.2.2
  have b4 := below_then b3 b3.size H4.out.2
  have b5 := b4.trans (H5.out.below _)
  have b6 := b5.trans (H6.out.below _)
  exact ⟨rfl, below_then b6 b6.size H7.out⟩
end Go.Proofs.Ytljnhcoeeloadaa
