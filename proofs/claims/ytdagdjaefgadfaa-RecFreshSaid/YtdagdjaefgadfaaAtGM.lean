import Derived.Test.YtdagdjaefgadfaaMSealC
import Derived.Test.YtdagdjaefgadfaaRecGM
set_option linter.unusedVariables false
set_option linter.unusedSimpArgs false
/- Contracts with a length beside. -/
namespace Go.Proofs.Ytdagdjaefgadfaa
open Go.RowKit

theorem getPage_n (w : World) (A : Option Addr) (n c : Nat) (xs : List UInt8) (hn : xs.length = n) (hr : RV w A (bv xs)) (hlc : n ≤ c) (hc : c ≤ maxLen) :
    Calls Try.prog 14 #[.slice A n c] w (GetPageEnd w (getS xs)) := by
  subst hn
  exact getPage_any w A c xs hr hlc hc
theorem recGet_n (w : World) (A : Option Addr) (n c : Nat) (xs : List UInt8) (hn : xs.length = n) (hr : RV w A (bv xs)) (hx : n ≤ 140737488355328) :
    Calls Try.prog 9 #[.slice A n c] w (RecGetEnd w (getRecS xs)) := by
  subst hn
  exact recGet_any w A c xs hr hx
end Go.Proofs.Ytdagdjaefgadfaa
