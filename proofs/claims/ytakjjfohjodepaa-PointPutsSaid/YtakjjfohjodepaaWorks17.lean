/- lives (layer 17): a point of no facts; which one is newer; contracts over what a call owns. -/
import Derived.Test.YtakjjfohjodepaaPointG
import Derived.Test.YtakjjfohjodepaaPointD
import Derived.Test.YtakjjfohjodepaaSealE
import Derived.Test.YtakjjfohjodepaaOwnK
set_option linter.unusedVariables false
set_option linter.unusedSimpArgs false
namespace Go.Proofs.Ytakjjfohjodepaa
open Go.RowKit

theorem newer_any (w : World) (n m : Nat) (b p c b' p' c' : Int) :
    Calls Try.prog 17 #[.agg #[.int .u64 (n : Int), .int .i64 b, .int .i64 p, .int .i64 c], .agg #[.int .u64 (m : Int), .int .i64 b', .int .i64 p', .int .i64 c']] w fun e w' => e = .returned (.bool (decide (m < n))) ∧ Below w.heap.size w w' := by
  by_cases h : m < n
  · have hd : decide (m < n) = true := decide_eq_true h
    have H := Lib.hid hd
    have hi : decide ((m : Int) < (n : Int)) = true := by simp; omega
    clear hd h
    go_enter Try.func17, Try.ntmps17
    go_wp2_with fail
    go_ret
    exact ⟨by rw [H.out]; first | (simp; done) | (simp; omega), ((Below.refl _ _).alloc (Nat.le_refl _) _).alloc (by simp) _⟩
  · have hd : decide (m < n) = false := decide_eq_false h
    have H := Lib.hid hd
    have hi : decide ((m : Int) < (n : Int)) = false := by simp; omega
    clear hd h
    go_enter Try.func17, Try.ntmps17
    go_wp2_with fail
    go_ret
    exact ⟨by rw [H.out]; first | (simp; done) | (simp; omega), ((Below.refl _ _).alloc (Nat.le_refl _) _).alloc (by simp) _⟩

theorem dGet_own (w : World) (base : Nat) (v : Value) (xs : List UInt8) (h : OwnB 5 w base v xs) :
    Calls Try.prog 14 #[v] w (GetPageEnd w (getS xs)) := by
  obtain ⟨A, c, rfl, hr, hl, hc, _⟩ := h.slice
  exact dGet_any w A c xs hr hl hc
theorem getPoint_own (w : World) (base : Nat) (v : Value) (xs : List UInt8) (h : OwnB 5 w base v xs) (hx : xs.length ≤ 140737488355328) :
    Calls Try.prog 9 #[v] w (GetPointEnd w (getPointS xs)) := by
  obtain ⟨A, c, rfl, hr, hl, hc, _⟩ := h.slice
  exact getPoint_any w A c xs hr hx

set_option maxRecDepth 100000 in
set_option maxHeartbeats 1000000 in
theorem lives_any (w : World) : Calls Try.prog 12 #[] w fun e w' => e = .returned (.bool true) ∧ Below w.heap.size w w' := by
  have p0 : (putPointS 128 1 0 0 0).2 = 0 := by decide +kernel
  have p1 : getS (putPointS 128 1 0 0 0).1 = (6, pointB 1 0 0 0, 0) := by decide +kernel
  have p2 : (pointB 1 0 0 0).length = 12 := by decide +kernel
  have p3 : (pointB 1 0 0 0)[0]? = some 1 := by decide +kernel
  have p4 : getPointS (pointB 1 0 0 0) = ((1, 0, 0, 0), 0) := by decide +kernel
  have p5 : putPointS 128 0 0 0 0 = ([], 2) := by decide +kernel
  generalize hq : putPointS 128 1 0 0 0 = Q at *
  generalize pointB 1 0 0 0 = B at *
  have HP := Lib.hid (And.intro p0 (And.intro p1 (And.intro p2 (And.intro p3 (And.intro p4 (And.intro p5 hq))))))
  clear p0 p1 p2 p3 p4 p5 hq
  go_enter Try.func12, Try.ntmps12
  go_wp2_with fail
  refine (putPoint_any w 128 1 0 0 0 (by decide)).mono ?_
  rintro e w1 ⟨v1, rfl, ho1, hb1⟩
  rw [HP.out.2.2.2.2.2.2] at ho1 ⊢
  rw [HP.out.1]
  have H1 := Lib.hid (And.intro ho1 hb1)
  clear ho1 hb1
  go_wp2_with fail
  refine (dGet_own w1 _ v1 _ H1.out.1).mono ?_
  rintro e w2 ⟨v2, rfl, ho2, hb2⟩
  rw [HP.out.2.1] at ho2 ⊢
  obtain ⟨g, full, rfl, hg, hrow, htk, hm⟩ := own_some ho2 (by rw [HP.out.2.2.1]; decide)
  have H2 := Lib.hid (And.intro ho2 (And.intro (below_then H1.out.2 H1.out.2.size hb2) (And.intro hrow htk)))
  have hfl : 12 ≤ full.length := by rw [← HP.out.2.2.1]; exact OwnB.len (g := g) htk
  clear ho2 hb2 hrow htk
  generalize full.length = fl at hm hfl H2
  go_wp2_with fail
  refine (getPoint_own w2 _ _ _ H2.out.1 (by rw [HP.out.2.2.1]; decide)).mono ?_
  rintro e w3 ⟨rfl, hb3⟩
  rw [HP.out.2.2.2.2.1]
  dsimp only [pointV]
  have hrow3 := H2.out.2.2.1.belowAll hb3
  have c0 : w3.cell? ⟨g, 0, none⟩ = some (.int .u8 1) := hrow3.cell (taken_get H2.out.2.2.2 HP.out.2.2.2.1)
  have hglt := hrow3.lt
  have H3 := Lib.hid (And.intro (below_then H2.out.2.1 H2.out.2.1.size hb3) hrow3)
  clear hb3 hrow3
  go_wp2_with fail
  refine (putPoint_any _ 128 0 0 0 0 (by decide)).mono ?_
  rintro e w4 ⟨v4, rfl, ho4, hb4⟩
  rw [HP.out.2.2.2.2.2.1] at ho4 ⊢
  dsimp only
  obtain ⟨A4, c4, rfl, _, _, _, _⟩ := ho4.slice
  have hpt := (Blk.new w3 26 #[.int .u64 ((1 : Nat) : Int), .int .i64 ((0 : Nat) : Int), .int .i64 ((0 : Nat) : Int), .int .i64 ((0 : Nat) : Int)]).below hb4 (by simp)
  have q0 := hpt.cell 0
  have q1 := hpt.cell 1
  have q2 := hpt.cell 2
  have q3 := hpt.cell 3
  simp at q0 q1 q2 q3
  have hrow4 := (H3.out.2.alloc (.cells #[.int .u64 ((1 : Nat) : Int), .int .i64 ((0 : Nat) : Int), .int .i64 ((0 : Nat) : Int), .int .i64 ((0 : Nat) : Int)] 26)).below hb4 (by simp; omega)
  have d0 : w4.cell? ⟨g, 0, none⟩ = some (.int .u8 1) := hrow4.cell (taken_get H2.out.2.2.2 HP.out.2.2.2.1)
  have H4 := Lib.hid (below_then H3.out.1 H3.out.1.size (below_new hb4))
  have hB12 : B.length = 12 := HP.out.2.2.1
  rw [hB12] 
  clear hb4 hpt hrow4 ho4 c0
  go_wp2_with fail
  go_ret
  exact ⟨rfl, H4.out⟩
end Go.Proofs.Ytakjjfohjodepaa
