import Derived.Test.YtlcdabmclcfagaaWorks03M
import Derived.Test.YtlcdabmclcfagaaPldM
set_option linter.unusedVariables false
set_option linter.unusedSimpArgs false
/- NandPlays: the walk. -/
namespace Go.Proofs.Ytlcdabmclcfagaa
open Go.RowKit

set_option maxRecDepth 100000 in
set_option maxHeartbeats 1000000 in
theorem walkNandPlays (w : World) (B P S Sp : Int) (A : Option Addr) (c : Nat) (l : List Ac) (hl : ActsP w A l) (hR : l.length * 80 ≤ 140737488351232) :
    Calls Try.prog 4 #[.agg #[.int .i64 B, .int .i64 P, .int .i64 S, .int .i64 Sp], .slice A l.length c] w fun e w' => e = .returned (.bool true) ∧ Below w.heap.size w w' := by
  have hb0 := (Below.refl w.heap.size w).alloc (Nat.le_refl _) (.cells #[.int .i64 B, .int .i64 P, .int .i64 S, .int .i64 Sp] 28)
  have HP := Lib.hid (played_any (w.alloc (.cells #[.int .i64 B, .int .i64 P, .int .i64 S, .int .i64 Sp] 28)) B P S Sp A l.length c l rfl (hl.below hb0) (by omega))
  have H0 := Lib.hid hb0
  clear hb0 hl
  generalize l.length = n at *
  go_enter Try.func4, Try.ntmps4
  go_wp2_with fail
  refine HP.out.mono ?_
  rintro e w1 ⟨hb1, hno, hyes⟩
  have H1 := Lib.hid (below_then H0.out H0.out.size hb1)
  have HW := Lib.hid (works_any w1)
  by_cases hm : mayG (cutB B) (cutP P) S Sp
  · obtain ⟨pb, rfl, -⟩ := hyes hm
    clear hyes hno hb1
    go_wp2_with fail
    refine HW.out.mono ?_
    rintro e w2 ⟨rfl, hb2⟩
    have H2 := Lib.hid (below_then H1.out H1.out.size hb2)
    clear hb2
    go_wp2_with fail
    go_ret
    exact ⟨rfl, H2.out⟩
  · obtain rfl := hno hm
    clear hyes hno hb1
    go_wp2_with fail
    refine HW.out.mono ?_
    rintro e w2 ⟨rfl, hb2⟩
    have H2 := Lib.hid (below_then H1.out H1.out.size hb2)
    clear hb2
    go_wp2_with fail
    go_ret
    exact ⟨rfl, H2.out⟩
end Go.Proofs.Ytlcdabmclcfagaa
