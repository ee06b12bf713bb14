/- The walk of PointPuts (layer 17). -/
import Derived.Test.YtakjjfohjodepaaPointBack
import Derived.Test.YtakjjfohjodepaaPointNewer
import Derived.Test.YtakjjfohjodepaaSameK
import Derived.Deep.RegionHeld3
set_option linter.unusedVariables false
set_option linter.unusedSimpArgs false
namespace Go.Proofs.Ytakjjfohjodepaa
open Go.RowKit

/-- Two points, two slices of the same bytes. -/
def Good (w w' : World) (n1 n2 : Nat) (b1 p1 c1 b2 p2 c2 : Int) (v1 v2 : Value) (P : List UInt8) : Prop := Two w w' n1 n2 b1 p1 c1 b2 p2 c2 ∧ (∃ B1 B2, OwnB 5 w' B1 v1 P ∧ OwnB 5 w' B2 v2 P)
def Cells2 (w w' : World) (n1 n2 : Nat) (b1 p1 c1 b2 p2 c2 : Int) : Prop := (w'.cell? ⟨w.heap.size, 0, none⟩ = some (.int .u64 (n1 : Int)) ∧ w'.cell? ⟨w.heap.size, 1, none⟩ = some (.int .i64 b1) ∧ w'.cell? ⟨w.heap.size, 2, none⟩ = some (.int .i64 p1) ∧ w'.cell? ⟨w.heap.size, 3, none⟩ = some (.int .i64 c1)) ∧
  (w'.cell? ⟨w.heap.size + 1, 0, none⟩ = some (.int .u64 (n2 : Int)) ∧ w'.cell? ⟨w.heap.size + 1, 1, none⟩ = some (.int .i64 b2) ∧ w'.cell? ⟨w.heap.size + 1, 2, none⟩ = some (.int .i64 p2) ∧ w'.cell? ⟨w.heap.size + 1, 3, none⟩ = some (.int .i64 c2))
section
variable {w w1 w2 : World} {n1 n2 : Nat} {b1 p1 c1 b2 p2 c2 : Int} {v1 v2 : Value} {P : List UInt8}
theorem Good.step (h : Good w w1 n1 n2 b1 p1 c1 b2 p2 c2 v1 v2 P) (hb : Below w1.heap.size w1 w2) : Good w w2 n1 n2 b1 p1 c1 b2 p2 c2 v1 v2 P := by
  obtain ⟨h1, B1, B2, h2, h3⟩ := h
  exact ⟨h1.step hb, B1, B2, h2.below hb, h3.below hb⟩
theorem same_S (h : Good w w1 n1 n2 b1 p1 c1 b2 p2 c2 v1 v2 P) : Calls Try.prog 15 #[v1, v2] w1 fun e w' => e = .returned (.bool true) ∧ Good w w' n1 n2 b1 p1 c1 b2 p2 c2 v1 v2 P ∧ Cells2 w w' n1 n2 b1 p1 c1 b2 p2 c2 := by
  obtain ⟨h1, B1, B2, h2, h3⟩ := id h
  refine (same_oo w1 B1 B2 v1 v2 P P h2 h3).mono ?_
  rintro e w' ⟨rfl, hd⟩
  have h' := h.step (hd.below _)
  exact ⟨by rw [decide_eq_true rfl], h', h'.1.cells⟩
theorem lives_S (h : Good w w1 n1 n2 b1 p1 c1 b2 p2 c2 v1 v2 P) : Calls Try.prog 12 #[] w1 fun e w' => e = .returned (.bool true) ∧ Good w w' n1 n2 b1 p1 c1 b2 p2 c2 v1 v2 P ∧ Cells2 w w' n1 n2 b1 p1 c1 b2 p2 c2 := by
  refine (lives_any w1).mono ?_
  rintro e w' ⟨rfl, hd⟩
  have h' := h.step hd
  exact ⟨rfl, h', h'.1.cells⟩
theorem newer_S (h : Good w w1 n1 n2 b1 p1 c1 b2 p2 c2 v1 v2 P) {r : Bool} (hr : decide (n2 < n1) = r) : Calls Try.prog 17 #[.agg #[.int .u64 (n1 : Int), .int .i64 b1, .int .i64 p1, .int .i64 c1], .agg #[.int .u64 (n2 : Int), .int .i64 b2, .int .i64 p2, .int .i64 c2]] w1 fun e w' => e = .returned (.bool r) ∧ Good w w' n1 n2 b1 p1 c1 b2 p2 c2 v1 v2 P ∧ Cells2 w w' n1 n2 b1 p1 c1 b2 p2 c2 := by
  refine (newer_any w1 n1 n2 b1 p1 c1 b2 p2 c2).mono ?_
  rintro e w' ⟨rfl, hd⟩
  have h' := h.step hd
  exact ⟨by rw [hr], h', h'.1.cells⟩
end

set_option maxRecDepth 100000 in
set_option maxHeartbeats 2000000 in
theorem walkPointPuts (w : World) (s : Int) (hs : (Lit.int .i64 s).wf = true) (n1 : Nat) (b1 p1 c1 : Int) (h1 : n1 < 18446744073709551616) (n2 : Nat) (b2 p2 c2 : Int) (h2 : n2 < 18446744073709551616) :
    Calls Try.prog 6 #[.int .i64 s, .agg #[.int .u64 (n1 : Int), .int .i64 b1, .int .i64 p1, .int .i64 c1], .agg #[.int .u64 (n2 : Int), .int .i64 b2, .int .i64 p2, .int .i64 c2]] w fun e w' => e = .returned (.bool true) ∧ Below w.heap.size w w' := by
  clear hs
  have HK := Lib.hid (Two.start w n1 n2 b1 p1 c1 b2 p2 c2)
  go_enter Try.func6, Try.ntmps6
  go_wp2_with fail
  refine (putPoint_any _ s n1 b1 p1 c1 h1).mono ?_
  rintro e w1 ⟨v1, rfl, ho1, hb1⟩
  have hK := HK.out.step hb1
  obtain ⟨⟨k1, k2, k3, k4⟩, ⟨k5, k6, k7, k8⟩⟩ := hK.cells
  have HQ := Lib.hid (putPointS_code s n1 b1 p1 c1)
  generalize hq : putPointS s n1 b1 p1 c1 = q at *
  obtain ⟨P, er⟩ := q
  dsimp only at ho1 ⊢
  have H1 := Lib.hid (And.intro ho1 hK)
  clear hK ho1 hb1
  go_wp2_with fail
  refine (dPutPoint_any w1 s n1 b1 p1 c1 h1).mono ?_
  rintro e w2 ⟨v2, rfl, ho2, hb2⟩
  rw [hq] at ho2 ⊢
  dsimp only at ho2 ⊢
  have hG : Good w w2 n1 n2 b1 p1 c1 b2 p2 c2 v1 v2 P := ⟨H1.out.2.step hb2, _, _, H1.out.1.below hb2, ho2⟩
  have hG := hG.step ((Below.refl w2.heap.size w2).drew)
  obtain ⟨⟨m1, m2, m3, m4⟩, ⟨m5, m6, m7, m8⟩⟩ := hG.1.cells
  have HM := Lib.hid hG
  clear hG ho2 hb2 k1 k2 k3 k4 k5 k6 k7 k8 hq
  have hd : decide (n2 < n1) = true ∧ (n2 : Int) < (n1 : Int) ∨ decide (n2 < n1) = false ∧ ¬ (n2 : Int) < (n1 : Int) := by
    by_cases h : n2 < n1
    · left; exact ⟨decide_eq_true h, by omega⟩
    · right; exact ⟨decide_eq_false h, by omega⟩
  rcases hd with ⟨hd, hd'⟩ | ⟨hd, hd'⟩
  all_goals
    have HD := Lib.hid hd
    clear hd hG
    go_wp2_with fail
    go_region_held3 (fun w' => w'.cell? ⟨w.heap.size, 0, none⟩ = some (.int .u64 (n1 : Int)) ∧ w'.cell? ⟨w.heap.size, 1, none⟩ = some (.int .i64 b1) ∧ w'.cell? ⟨w.heap.size, 2, none⟩ = some (.int .i64 p1) ∧ w'.cell? ⟨w.heap.size, 3, none⟩ = some (.int .i64 c1) ∧ w'.cell? ⟨w.heap.size + 1, 0, none⟩ = some (.int .u64 (n2 : Int)) ∧ w'.cell? ⟨w.heap.size + 1, 1, none⟩ = some (.int .i64 b2) ∧ w'.cell? ⟨w.heap.size + 1, 2, none⟩ = some (.int .i64 p2) ∧ w'.cell? ⟨w.heap.size + 1, 3, none⟩ = some (.int .i64 c2) ∧ Good w w' n1 n2 b1 p1 c1 b2 p2 c2 v1 v2 P)
      (first | exact ⟨m1, m2, m3, m4, m5, m6, m7, m8, HM.out⟩)
      (first
        | (go_at_call 15; refine (same_S (HM.out)).mono ?_; rintro e w3 ⟨rfl, hM, ⟨⟨m1, m2, m3, m4⟩, ⟨m5, m6, m7, m8⟩⟩⟩; have HM := Lib.hid hM)
        | (go_at_call 17; refine (newer_S (HM.out) HD.out).mono ?_; rintro e w3 ⟨rfl, hM, ⟨⟨m1, m2, m3, m4⟩, ⟨m5, m6, m7, m8⟩⟩⟩; have HM := Lib.hid hM)
        | (go_at_call 12; refine (lives_S (HM.out)).mono ?_; rintro e w3 ⟨rfl, hM, ⟨⟨m1, m2, m3, m4⟩, ⟨m5, m6, m7, m8⟩⟩⟩; have HM := Lib.hid hM))
    go_wp2_with fail
    go_ret
    refine ⟨?_, HM.out.1.1⟩
    first
      | rfl
      | (show Ending.returned (.bool (!decide (n2 < n1))) = .returned (.bool true); rw [HD.out]; rfl)
end Go.Proofs.Ytakjjfohjodepaa
