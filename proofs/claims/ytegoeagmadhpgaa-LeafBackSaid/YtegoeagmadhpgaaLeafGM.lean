import Derived.Test.YtegoeagmadhpgaaListFM
import Derived.Test.YtegoeagmadhpgaaListCM
set_option linter.unusedVariables false
set_option linter.unusedSimpArgs false
/- Layer 15: GetLeaf, GetInner: contracts. -/
namespace Go.Proofs.Ytegoeagmadhpgaa
open Go.RowKit

set_option maxRecDepth 100000 in
set_option maxHeartbeats 1000000 in
theorem getLeaf_any (w : World) (A : Option Addr) (n c : Nat) (xs : List UInt8) (hn : xs.length = n) (hr : RV w A (bv xs)) (hx : n ≤ 140737488355328) :
    Calls Try.prog 9 #[.slice A n c] w (LsFEnd w (getLeafS xs)) := by
  subst hn
  have hb := (Below.refl w.heap.size w).alloc (Nat.le_refl _) (.cells #[] 52)
  have H := Lib.hid (And.intro (listF_any (w.alloc (.cells #[] 52)) A c xs (hr.alloc _) hx) hb)
  clear hr hb
  generalize getLeafS xs = r at *
  go_enter Try.func9, Try.ntmps9
  go_wp2_with fail
  refine H.out.1.mono ?_
  rintro e w1 ⟨v, rfl, ⟨ps, hps, ho⟩, hb1⟩
  have H1 := Lib.hid (And.intro hps (And.intro (ho.lower (show w.heap.size ≤ (w.alloc (.cells #[] 52)).heap.size by simp)) (below_then H.out.2 H.out.2.size hb1)))
  clear hps ho hb1
  go_wp2_with fail
  go_ret2
  exact ⟨_, rfl, ⟨ps, H1.out.1, H1.out.2.1⟩, H1.out.2.2⟩

set_option maxRecDepth 100000 in
set_option maxHeartbeats 1000000 in
theorem getInner_any (w : World) (A : Option Addr) (n c : Nat) (xs : List UInt8) (hn : xs.length = n) (hr : RV w A (bv xs)) (hx : n ≤ 140737488355328) :
    Calls Try.prog 25 #[.slice A n c] w (LsCEnd w (getInnerS xs)) := by
  subst hn
  have hb := (Below.refl w.heap.size w).alloc (Nat.le_refl _) (.cells #[] 52)
  have H := Lib.hid (And.intro (listC_any (w.alloc (.cells #[] 52)) A c xs (hr.alloc _) hx) hb)
  clear hr hb
  generalize getInnerS xs = r at *
  go_enter Try.func25, Try.ntmps25
  go_wp2_with fail
  refine H.out.1.mono ?_
  rintro e w1 ⟨v, rfl, ⟨ps, hps, ho⟩, hb1⟩
  have H1 := Lib.hid (And.intro hps (And.intro (ho.lower (show w.heap.size ≤ (w.alloc (.cells #[] 52)).heap.size by simp)) (below_then H.out.2 H.out.2.size hb1)))
  clear hps ho hb1
  go_wp2_with fail
  go_ret2
  exact ⟨_, rfl, ⟨ps, H1.out.1, H1.out.2.1⟩, H1.out.2.2⟩
end Go.Proofs.Ytegoeagmadhpgaa
