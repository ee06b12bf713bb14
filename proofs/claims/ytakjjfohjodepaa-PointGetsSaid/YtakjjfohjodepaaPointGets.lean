/- The walk of PointGets (layer 17). -/
import Derived.Test.YtakjjfohjodepaaWorks17
import Derived.Test.YtakjjfohjodepaaPointE
import Derived.Test.YtakjjfohjodepaaWide
import Derived.Test.YtakjjfohjodepaaLeft
set_option linter.unusedVariables false
set_option linter.unusedSimpArgs false
namespace Go.Proofs.Ytakjjfohjodepaa
open Go.RowKit

theorem getPoint_wide (w : World) (g : Nat) (xs : List UInt8) (h : RowB 5 w g (xs ++ [7, 7, 7])) (hx : xs.length ≤ 140737488355328) :
    Calls Try.prog 9 #[.slice (some ⟨g, 0, none⟩) xs.length (xs.length + 3)] w (GetPointEnd w (getPointS xs)) := by
  refine getPoint_any w (some ⟨g, 0, none⟩) (xs.length + 3) xs ?_ hx
  have := h.rv.take xs.length
  rwa [← bv_take, List.take_left] at this

set_option maxRecDepth 100000 in
set_option maxHeartbeats 1000000 in
theorem walkPointGets (w : World) (A : Option Addr) (c : Nat) (xs : List UInt8) (hr : RV w A (bv xs)) (hl : xs.length ≤ c) (hm : c ≤ maxLen) (hR : xs.length ≤ 140737488351232) :
    Calls Try.prog 3 #[.slice A xs.length c] w fun e w' => e = .returned (.bool true) ∧ Below w.heap.size w w' := by
  have HR := Lib.hid (And.intro hr (And.intro hl hm))
  clear hr hl hm
  go_enter Try.func3, Try.ntmps3
  go_wp2_with fail
  refine (wide_any w A c xs HR.out.1 (by omega)).mono ?_
  rintro e w1 ⟨g, rfl, hg, hrow, hb1⟩
  have H1 := Lib.hid (And.intro hrow hb1)
  clear hrow hb1
  go_wp2_with fail
  refine (getPoint_wide w1 g xs H1.out.1 (by omega)).mono ?_
  rintro e w2 ⟨rfl, hb2⟩
  generalize hq : getPointS xs = q
  have HQ := Lib.hid hq
  clear hq
  obtain ⟨⟨n0, n1, n2, n3⟩, er⟩ := q
  dsimp only [pointV]
  have H2 := Lib.hid (And.intro (H1.out.1.belowAll hb2) (below_then H1.out.2 H1.out.2.size hb2))
  clear hb2
  go_wp2_with fail
  have hbw : Below w.heap.size w (w2.alloc (.cells #[.int .u64 (n0 : Int), .int .i64 (n1 : Int), .int .i64 (n2 : Int), .int .i64 (n3 : Int)] 26)) := H2.out.2.alloc H2.out.2.size _
  refine (dGetPoint_any _ A c xs (HR.out.1.below hbw) HR.out.2.1 HR.out.2.2).mono ?_
  rintro e w3 ⟨rfl, hb3⟩
  rw [HQ.out]
  dsimp only [pointV]
  have hp3 := (Blk.new w2 26 #[.int .u64 (n0 : Int), .int .i64 (n1 : Int), .int .i64 (n2 : Int), .int .i64 (n3 : Int)]).below hb3 (by simp)
  have hr3 := (H2.out.1.alloc (.cells #[.int .u64 (n0 : Int), .int .i64 (n1 : Int), .int .i64 (n2 : Int), .int .i64 (n3 : Int)] 26)).belowAll hb3
  have q0 := hp3.cell 0
  have q1 := hp3.cell 1
  have q2 := hp3.cell 2
  have q3 := hp3.cell 3
  simp at q0 q1 q2 q3
  have hB3 := below_then H2.out.2 H2.out.2.size (below_new hb3)
  have hlt3 : w2.heap.size < w3.heap.size := hp3.lt
  have HA := Lib.hid (And.intro ((hr3.alloc (.cells #[.int .u64 (n0 : Int), .int .i64 (n1 : Int), .int .i64 (n2 : Int), .int .i64 (n3 : Int)] 26))) (hB3.alloc hB3.size (.cells #[.int .u64 (n0 : Int), .int .i64 (n1 : Int), .int .i64 (n2 : Int), .int .i64 (n3 : Int)] 26)))
  clear hb3 hp3 hr3 hB3
  go_wp2_with (first
    | (go_at_call 11; refine (left_yes _ g A c xs HA.out.1 (HR.out.1.below HA.out.2) (by omega)).mono ?_; rintro e w4 ⟨rfl, hd⟩; have H4 := Lib.hid (HA.out.2.trans (hd.below _)); clear hd)
    | (go_at_call 12; refine (lives_any _).mono ?_; rintro e w5 ⟨rfl, hb⟩; have HB := Lib.hid (below_then H4.out H4.out.size hb); clear hb))
  go_ret
  exact ⟨rfl, HB.out⟩
end Go.Proofs.Ytakjjfohjodepaa
