/- The walk of PointNewer (layer 17). -/
import Derived.Test.YtakjjfohjodepaaWorks17
set_option linter.unusedVariables false
set_option linter.unusedSimpArgs false
namespace Go.Proofs.Ytakjjfohjodepaa
open Go.RowKit

/-- Three points that were laid first, and what was made since. -/
def Three (w w' : World) (n1 n2 n3 : Nat) (b1 p1 c1 b2 p2 c2 b3 p3 c3 : Int) : Prop :=
  Below w.heap.size w w' ∧ Blk w' w.heap.size 26 #[.int .u64 (n1 : Int), .int .i64 b1, .int .i64 p1, .int .i64 c1] ∧
    Blk w' (w.heap.size + 1) 26 #[.int .u64 (n2 : Int), .int .i64 b2, .int .i64 p2, .int .i64 c2] ∧ Blk w' (w.heap.size + 2) 26 #[.int .u64 (n3 : Int), .int .i64 b3, .int .i64 p3, .int .i64 c3]
/-- .. cell by cell. -/
def Cells3 (w w' : World) (n1 n2 n3 : Nat) (b1 p1 c1 b2 p2 c2 b3 p3 c3 : Int) : Prop :=
  (w'.cell? ⟨w.heap.size, 0, none⟩ = some (.int .u64 (n1 : Int)) ∧ w'.cell? ⟨w.heap.size, 1, none⟩ = some (.int .i64 b1) ∧ w'.cell? ⟨w.heap.size, 2, none⟩ = some (.int .i64 p1) ∧ w'.cell? ⟨w.heap.size, 3, none⟩ = some (.int .i64 c1)) ∧
  (w'.cell? ⟨w.heap.size + 1, 0, none⟩ = some (.int .u64 (n2 : Int)) ∧ w'.cell? ⟨w.heap.size + 1, 1, none⟩ = some (.int .i64 b2) ∧ w'.cell? ⟨w.heap.size + 1, 2, none⟩ = some (.int .i64 p2) ∧ w'.cell? ⟨w.heap.size + 1, 3, none⟩ = some (.int .i64 c2)) ∧
  (w'.cell? ⟨w.heap.size + 2, 0, none⟩ = some (.int .u64 (n3 : Int)) ∧ w'.cell? ⟨w.heap.size + 2, 1, none⟩ = some (.int .i64 b3) ∧ w'.cell? ⟨w.heap.size + 2, 2, none⟩ = some (.int .i64 p3) ∧ w'.cell? ⟨w.heap.size + 2, 3, none⟩ = some (.int .i64 c3))
section
variable {w w' w1 w2 : World} {n1 n2 n3 : Nat} {b1 p1 c1 b2 p2 c2 b3 p3 c3 : Int}
theorem Three.cells (h : Three w w' n1 n2 n3 b1 p1 c1 b2 p2 c2 b3 p3 c3) : Cells3 w w' n1 n2 n3 b1 p1 c1 b2 p2 c2 b3 p3 c3 := by
  obtain ⟨_, h1, h2, h3⟩ := h
  exact ⟨⟨h1.cell 0, h1.cell 1, h1.cell 2, h1.cell 3⟩, ⟨h2.cell 0, h2.cell 1, h2.cell 2, h2.cell 3⟩, ⟨h3.cell 0, h3.cell 1, h3.cell 2, h3.cell 3⟩⟩
theorem Three.step (h : Three w w1 n1 n2 n3 b1 p1 c1 b2 p2 c2 b3 p3 c3) (hb : Below w1.heap.size w1 w2) : Three w w2 n1 n2 n3 b1 p1 c1 b2 p2 c2 b3 p3 c3 :=
  ⟨below_then h.1 h.1.size hb, h.2.1.below hb h.2.1.lt, h.2.2.1.below hb h.2.2.1.lt, h.2.2.2.below hb h.2.2.2.lt⟩
theorem Three.start (w : World) (n1 n2 n3 : Nat) (b1 p1 c1 b2 p2 c2 b3 p3 c3 : Int) : Three w (((w.alloc (.cells #[.int .u64 (n1 : Int), .int .i64 b1, .int .i64 p1, .int .i64 c1] 26)).alloc (.cells #[.int .u64 (n2 : Int), .int .i64 b2, .int .i64 p2, .int .i64 c2] 26)).alloc (.cells #[.int .u64 (n3 : Int), .int .i64 b3, .int .i64 p3, .int .i64 c3] 26)) n1 n2 n3 b1 p1 c1 b2 p2 c2 b3 p3 c3 := by
  refine ⟨(((Below.refl _ _).alloc (Nat.le_refl _) _).alloc (by simp) _).alloc (by simp; omega) _, ((Blk.new _ _ _).alloc _).alloc _, ?_, ?_⟩
  · have := (Blk.new (w.alloc (.cells #[.int .u64 (n1 : Int), .int .i64 b1, .int .i64 p1, .int .i64 c1] 26)) 26 #[.int .u64 (n2 : Int), .int .i64 b2, .int .i64 p2, .int .i64 c2])
    rw [alloc_size] at this
    exact this.alloc _
  · have := (Blk.new ((w.alloc (.cells #[.int .u64 (n1 : Int), .int .i64 b1, .int .i64 p1, .int .i64 c1] 26)).alloc (.cells #[.int .u64 (n2 : Int), .int .i64 b2, .int .i64 p2, .int .i64 c2] 26)) 26 #[.int .u64 (n3 : Int), .int .i64 b3, .int .i64 p3, .int .i64 c3])
    rw [alloc_size, alloc_size] at this
    exact this
/-- Two points that were laid first. -/
def Two (w w' : World) (n1 n2 : Nat) (b1 p1 c1 b2 p2 c2 : Int) : Prop :=
  Below w.heap.size w w' ∧ Blk w' w.heap.size 26 #[.int .u64 (n1 : Int), .int .i64 b1, .int .i64 p1, .int .i64 c1] ∧
    Blk w' (w.heap.size + 1) 26 #[.int .u64 (n2 : Int), .int .i64 b2, .int .i64 p2, .int .i64 c2]
theorem Two.cells (h : Two w w' n1 n2 b1 p1 c1 b2 p2 c2) : (w'.cell? ⟨w.heap.size, 0, none⟩ = some (.int .u64 (n1 : Int)) ∧ w'.cell? ⟨w.heap.size, 1, none⟩ = some (.int .i64 b1) ∧ w'.cell? ⟨w.heap.size, 2, none⟩ = some (.int .i64 p1) ∧ w'.cell? ⟨w.heap.size, 3, none⟩ = some (.int .i64 c1)) ∧
  (w'.cell? ⟨w.heap.size + 1, 0, none⟩ = some (.int .u64 (n2 : Int)) ∧ w'.cell? ⟨w.heap.size + 1, 1, none⟩ = some (.int .i64 b2) ∧ w'.cell? ⟨w.heap.size + 1, 2, none⟩ = some (.int .i64 p2) ∧ w'.cell? ⟨w.heap.size + 1, 3, none⟩ = some (.int .i64 c2)) := by
  obtain ⟨_, h1, h2⟩ := h
  exact ⟨⟨h1.cell 0, h1.cell 1, h1.cell 2, h1.cell 3⟩, ⟨h2.cell 0, h2.cell 1, h2.cell 2, h2.cell 3⟩⟩
theorem Two.step (h : Two w w1 n1 n2 b1 p1 c1 b2 p2 c2) (hb : Below w1.heap.size w1 w2) : Two w w2 n1 n2 b1 p1 c1 b2 p2 c2 :=
  ⟨below_then h.1 h.1.size hb, h.2.1.below hb h.2.1.lt, h.2.2.below hb h.2.2.lt⟩
theorem Two.start (w : World) (n1 n2 : Nat) (b1 p1 c1 b2 p2 c2 : Int) : Two w ((w.alloc (.cells #[.int .u64 (n1 : Int), .int .i64 b1, .int .i64 p1, .int .i64 c1] 26)).alloc (.cells #[.int .u64 (n2 : Int), .int .i64 b2, .int .i64 p2, .int .i64 c2] 26)) n1 n2 b1 p1 c1 b2 p2 c2 := by
  refine ⟨((Below.refl _ _).alloc (Nat.le_refl _) _).alloc (by simp) _, (Blk.new _ _ _).alloc _, ?_⟩
  have := (Blk.new (w.alloc (.cells #[.int .u64 (n1 : Int), .int .i64 b1, .int .i64 p1, .int .i64 c1] 26)) 26 #[.int .u64 (n2 : Int), .int .i64 b2, .int .i64 p2, .int .i64 c2])
  rw [alloc_size] at this
  exact this
theorem newer_yes (K : Three w w1 n1 n2 n3 b1 p1 c1 b2 p2 c2 b3 p3 c3) (n m : Nat) (b p c b' p' c' : Int) (h : m < n) :
    Calls Try.prog 17 #[.agg #[.int .u64 (n : Int), .int .i64 b, .int .i64 p, .int .i64 c], .agg #[.int .u64 (m : Int), .int .i64 b', .int .i64 p', .int .i64 c']] w1 fun e w' => e = .returned (.bool true) ∧ Three w w' n1 n2 n3 b1 p1 c1 b2 p2 c2 b3 p3 c3 :=
  (newer_any w1 n m b p c b' p' c').mono fun e w' ⟨he, hb⟩ => ⟨by rw [he, decide_eq_true h], K.step hb⟩
theorem newer_no (K : Three w w1 n1 n2 n3 b1 p1 c1 b2 p2 c2 b3 p3 c3) (n m : Nat) (b p c b' p' c' : Int) (h : ¬ m < n) :
    Calls Try.prog 17 #[.agg #[.int .u64 (n : Int), .int .i64 b, .int .i64 p, .int .i64 c], .agg #[.int .u64 (m : Int), .int .i64 b', .int .i64 p', .int .i64 c']] w1 fun e w' => e = .returned (.bool false) ∧ Three w w' n1 n2 n3 b1 p1 c1 b2 p2 c2 b3 p3 c3 :=
  (newer_any w1 n m b p c b' p' c').mono fun e w' ⟨he, hb⟩ => ⟨by rw [he, decide_eq_false h], K.step hb⟩
end

set_option maxRecDepth 100000 in
set_option maxHeartbeats 4000000 in
theorem walkPointNewer (w : World) (n1 : Nat) (b1 p1 c1 : Int) (h1 : n1 < 18446744073709551616) (n2 : Nat) (b2 p2 c2 : Int) (h2 : n2 < 18446744073709551616) (n3 : Nat) (b3 p3 c3 : Int) (h3 : n3 < 18446744073709551616) :
    Calls Try.prog 7 #[.agg #[.int .u64 (n1 : Int), .int .i64 b1, .int .i64 p1, .int .i64 c1], .agg #[.int .u64 (n2 : Int), .int .i64 b2, .int .i64 p2, .int .i64 c2], .agg #[.int .u64 (n3 : Int), .int .i64 b3, .int .i64 p3, .int .i64 c3]] w fun e w' => e = .returned (.bool true) ∧ Below w.heap.size w w' := by
  have HK := Lib.hid (Three.start w n1 n2 n3 b1 p1 c1 b2 p2 c2 b3 p3 c3)
  have h4 : n1 < n2 ∨ n1 = n2 ∨ (n2 < n1 ∧ n3 < n2) ∨ (n2 < n1 ∧ ¬ n3 < n2) := by omega
  have hne : n1 = n2 ∧ ((n1 : Int) != (n2 : Int)) = false ∨ n1 ≠ n2 ∧ ((n1 : Int) != (n2 : Int)) = true := by
    by_cases h : n1 = n2
    · left; simp [h]
    · right; simp; omega
  rcases hne with ⟨e, hne⟩ | ⟨e, hne⟩ <;> rcases h4 with h4 | h4 | h4 | h4 <;> (try omega)
  all_goals
    have H4 := Lib.hid (And.intro h4 e)
    clear h4 e
    go_enter Try.func7, Try.ntmps7
    go_wp2_with (first
      | (go_at_call 17; refine (newer_yes HK.out _ _ _ _ _ _ _ _ (by have := H4.out; omega)).mono ?_; rintro e w1 ⟨rfl, hK⟩; obtain ⟨⟨k1, k2, k3, k4⟩, ⟨k5, k6, k7, k8⟩, ⟨k9, k10, k11, k12⟩⟩ := hK.cells; have HK := Lib.hid hK; clear hK)
      | (go_at_call 17; refine (newer_no HK.out _ _ _ _ _ _ _ _ (by have := H4.out; omega)).mono ?_; rintro e w1 ⟨rfl, hK⟩; obtain ⟨⟨k1, k2, k3, k4⟩, ⟨k5, k6, k7, k8⟩, ⟨k9, k10, k11, k12⟩⟩ := hK.cells; have HK := Lib.hid hK; clear hK)
      | (go_at_call 12; refine (lives_any _).mono ?_; rintro e w1 ⟨rfl, hb⟩; have HB := Lib.hid (below_then HK.out.1 HK.out.1.size hb); clear hb))
    go_ret
    exact ⟨rfl, HB.out⟩
end Go.Proofs.Ytakjjfohjodepaa
