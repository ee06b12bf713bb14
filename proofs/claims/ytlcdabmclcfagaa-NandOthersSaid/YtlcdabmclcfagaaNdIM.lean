import Derived.Test.YtlcdabmclcfagaaNdAM
import Derived.Test.YtlcdabmclcfagaaCell2M
set_option linter.unusedVariables false
set_option linter.unusedSimpArgs false
/- Layer 3: within: contract. -/
namespace Go.Proofs.Ytlcdabmclcfagaa
open Go.RowKit

def cutB (b : Int) : Int := if 12 < b then 8 + b % 5 else b
def cutP (p : Int) : Int := if 6 < p then 4 + p % 3 else p
theorem within_blk (w : World) (a b S Sp : Int) :
    Blk ((w.alloc (.cells #[.int .i64 a, .int .i64 b, .int .i64 S, .int .i64 Sp] 28)).alloc (.cells #[.int .i64 a, .int .i64 b, .int .i64 S, .int .i64 Sp] 28)) (w.heap.size + 1) 28 #[.int .i64 a, .int .i64 b, .int .i64 S, .int .i64 Sp] ∧
    Below w.heap.size w ((w.alloc (.cells #[.int .i64 a, .int .i64 b, .int .i64 S, .int .i64 Sp] 28)).alloc (.cells #[.int .i64 a, .int .i64 b, .int .i64 S, .int .i64 Sp] 28)) := by
  have hR := Blk.new (w.alloc (.cells #[.int .i64 a, .int .i64 b, .int .i64 S, .int .i64 Sp] 28)) 28 #[.int .i64 a, .int .i64 b, .int .i64 S, .int .i64 Sp]
  rw [alloc_sz] at hR
  exact ⟨hR, ((Below.refl w.heap.size w).alloc (Nat.le_refl _) _).alloc (by rw [alloc_sz]; exact Nat.le_succ _) _⟩
set_option maxRecDepth 100000 in
set_option maxHeartbeats 1000000 in
theorem within_any (w : World) (B P S Sp : Int) :
    Calls Try.prog 47 #[.agg #[.int .i64 B, .int .i64 P, .int .i64 S, .int .i64 Sp]] w fun e w' => e = .returned (.agg #[.int .i64 (cutB B), .int .i64 (cutP P), .int .i64 S, .int .i64 Sp]) ∧ Below w.heap.size w w' := by
  unfold cutB cutP
  by_cases h1 : 12 < B
  · by_cases h2 : 6 < P
    · rw [if_pos h1, if_pos h2]
      have t1 : decide (12 < B) = true := decide_eq_true h1
      have t2 : decide (6 < P) = true := decide_eq_true h2
      have m1 : Int.tmod B 5 = B % 5 := Int.tmod_eq_emod_of_nonneg (by omega)
      have w1 : IntKind.i64.wrap (B % 5) = B % 5 := IntWalk.i64_in _ (by omega)
      have w2 : IntKind.i64.wrap (8 + B % 5) = 8 + B % 5 := IntWalk.i64_in _ (by omega)
      have m2 : Int.tmod P 3 = P % 3 := Int.tmod_eq_emod_of_nonneg (by omega)
      have w3 : IntKind.i64.wrap (P % 3) = P % 3 := IntWalk.i64_in _ (by omega)
      have w4 : IntKind.i64.wrap (4 + P % 3) = 4 + P % 3 := IntWalk.i64_in _ (by omega)
      have HW := Lib.hid (within_blk w (8 + B % 5) (4 + P % 3) S Sp)
      go_enter Try.func47, Try.ntmps47
      go_wp2_with fail
      refine post_cell1 Try.results47 Try.underlying28 rfl #[.int .i64 (8 + B % 5), .int .i64 (4 + P % 3), .int .i64 S, .int .i64 Sp] rfl (g := w.heap.size + 1) (t := 28) HW.out.1 (by kernel_rfl) ?_
      exact ⟨rfl, HW.out.2⟩
    · rw [if_pos h1, if_neg h2]
      have t1 : decide (12 < B) = true := decide_eq_true h1
      have t2 : decide (6 < P) = false := decide_eq_false h2
      have m1 : Int.tmod B 5 = B % 5 := Int.tmod_eq_emod_of_nonneg (by omega)
      have w1 : IntKind.i64.wrap (B % 5) = B % 5 := IntWalk.i64_in _ (by omega)
      have w2 : IntKind.i64.wrap (8 + B % 5) = 8 + B % 5 := IntWalk.i64_in _ (by omega)
      have HW := Lib.hid (within_blk w (8 + B % 5) (P) S Sp)
      go_enter Try.func47, Try.ntmps47
      go_wp2_with fail
      refine post_cell1 Try.results47 Try.underlying28 rfl #[.int .i64 (8 + B % 5), .int .i64 (P), .int .i64 S, .int .i64 Sp] rfl (g := w.heap.size + 1) (t := 28) HW.out.1 (by kernel_rfl) ?_
      exact ⟨rfl, HW.out.2⟩
  · by_cases h2 : 6 < P
    · rw [if_neg h1, if_pos h2]
      have t1 : decide (12 < B) = false := decide_eq_false h1
      have t2 : decide (6 < P) = true := decide_eq_true h2
      have m2 : Int.tmod P 3 = P % 3 := Int.tmod_eq_emod_of_nonneg (by omega)
      have w3 : IntKind.i64.wrap (P % 3) = P % 3 := IntWalk.i64_in _ (by omega)
      have w4 : IntKind.i64.wrap (4 + P % 3) = 4 + P % 3 := IntWalk.i64_in _ (by omega)
      have HW := Lib.hid (within_blk w (B) (4 + P % 3) S Sp)
      go_enter Try.func47, Try.ntmps47
      go_wp2_with fail
      refine post_cell1 Try.results47 Try.underlying28 rfl #[.int .i64 (B), .int .i64 (4 + P % 3), .int .i64 S, .int .i64 Sp] rfl (g := w.heap.size + 1) (t := 28) HW.out.1 (by kernel_rfl) ?_
      exact ⟨rfl, HW.out.2⟩
    · rw [if_neg h1, if_neg h2]
      have t1 : decide (12 < B) = false := decide_eq_false h1
      have t2 : decide (6 < P) = false := decide_eq_false h2
      have HW := Lib.hid (within_blk w (B) (P) S Sp)
      go_enter Try.func47, Try.ntmps47
      go_wp2_with fail
      refine post_cell1 Try.results47 Try.underlying28 rfl #[.int .i64 (B), .int .i64 (P), .int .i64 S, .int .i64 Sp] rfl (g := w.heap.size + 1) (t := 28) HW.out.1 (by kernel_rfl) ?_
      exact ⟨rfl, HW.out.2⟩
end Go.Proofs.Ytlcdabmclcfagaa
