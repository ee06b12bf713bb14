/- Layer 17: contract of Get. -/
import Derived.Test.YtakjjfohjodepaaPointP
import Derived.Test.YtakjjfohjodepaaRLeft
import Derived.Test.YtakjjfohjodepaaCell2
set_option linter.unusedVariables false
set_option linter.unusedSimpArgs false
namespace Go.Proofs.Ytakjjfohjodepaa
open Go.RowKit

/-- The bytes' numbers. -/
def numsOf (xs : List UInt8) : Nat × Nat × Nat × Nat := (leval (xs.take 8), leval ((xs.drop 8).take 1), leval (((xs.drop 8).drop 1).take 1), leval ((((xs.drop 8).drop 1).drop 1).take 2))
/-- What Get answers. -/
def getPointS (xs : List UInt8) : (Nat × Nat × Nat × Nat) × Nat :=
  if xs.length < 12 then ((0, 0, 0, 0), 4)
  else if mayP (numsOf xs).1 (numsOf xs).2.1 (numsOf xs).2.2.1 (numsOf xs).2.2.2 ∧ xs.length = 12 then (numsOf xs, 0) else ((0, 0, 0, 0), 5)
def pointV (q : Nat × Nat × Nat × Nat) : Value := .agg #[.int .u64 (q.1 : Int), .int .i64 (q.2.1 : Int), .int .i64 (q.2.2.1 : Int), .int .i64 (q.2.2.2 : Int)]
def GetPointEnd (w : World) (r : (Nat × Nat × Nat × Nat) × Nat) (e : Ending) (w' : World) : Prop :=
  e = .returned (.tuple #[pointV r.1, .int .i64 (r.2 : Int)]) ∧ Below w.heap.size w w'

/-- The state of the rounds. -/
def tookS (xs : List UInt8) : Nat → List UInt8
  | 0 => xs
  | 1 => xs.drop 8
  | 2 => (xs.drop 8).drop 1
  | 3 => ((xs.drop 8).drop 1).drop 1
  | _ => (((xs.drop 8).drop 1).drop 1).drop 2
def sizeAt : Nat → Nat
  | 0 => 8
  | 1 => 1
  | 2 => 1
  | _ => 2
def sumAt : Nat → Nat
  | 0 => 0
  | 1 => 8
  | 2 => 9
  | 3 => 10
  | _ => 12
instance (n : Int) : Decidable (IsSz n) := by unfold IsSz; exact inferInstance
def numAt (xs : List UInt8) (j : Nat) : Nat := leval ((tookS xs j).take (sizeAt j))
def numUp (xs : List UInt8) (j i : Nat) : Nat := if i < j then numAt xs i else 0

theorem sizeAt_ok (j : Nat) : IsSz (sizeAt j : Int) := by
  unfold sizeAt
  split <;> decide
theorem tookS_succ (xs : List UInt8) {j : Nat} (hj : j < 4) : (tookS xs j).drop (sizeAt j) = tookS xs (j + 1) := by
  match j, hj with
  | 0, _ => rfl
  | 1, _ => rfl
  | 2, _ => rfl
  | 3, _ => rfl
theorem takeNo_at {w : World} {g j : Nat} {h : Option Nat} {xs : List UInt8} (r : Rd w g h (some (tookS xs j))) (hs : (tookS xs j).length < sizeAt j) (n : Int) (hn : (sizeAt j : Int) = n) :
    Calls Try.prog 19 #[.pointer (some ⟨g, 0, none⟩), .int .i64 n] w fun e w' => e = .returned (.tuple #[.int .u64 0, .int .i64 4]) ∧ w.grownBy w' (some g) := by
  subst hn
  refine (take_no r (sizeAt_ok j) (fun l hl => by injection hl with hl; subst hl; exact hs)).mono ?_
  rintro e w' ⟨rfl, _, hg⟩
  rw [show takeS (some (tookS xs j)) (sizeAt j) = (0, 4, none) by simp [takeS, hs]]
  exact ⟨rfl, hg⟩
theorem takeOk_at {w : World} {g j : Nat} {h : Option Nat} {xs : List UInt8} (r : Rd w g h (some (tookS xs j))) (hs : ¬ (tookS xs j).length < sizeAt j) (hj : j < 4) (n : Int) (hn : (sizeAt j : Int) = n) :
    Calls Try.prog 19 #[.pointer (some ⟨g, 0, none⟩), .int .i64 n] w fun e w' => e = .returned (.tuple #[.int .u64 (numAt xs j : Nat), .int .i64 0]) ∧ Rd w' g h (some (tookS xs (j + 1))) ∧ w.grownBy w' (some g) := by
  subst hn
  refine (take_ok r (sizeAt_ok j) (Nat.not_lt.1 hs)).mono ?_
  rintro e w' ⟨rfl, hr, hg⟩
  rw [show takeS (some (tookS xs j)) (sizeAt j) = (numAt xs j, 0, some (tookS xs (j + 1))) by rw [← tookS_succ xs hj]; simp [takeS, hs, numAt]] at hr ⊢
  exact ⟨rfl, hr, hg⟩
theorem tookS_length (xs : List UInt8) {j : Nat} (hj : j ≤ 4) : (tookS xs j).length = xs.length - sumAt j := by
  have h5 : j = 0 ∨ j = 1 ∨ j = 2 ∨ j = 3 ∨ j = 4 := by omega
  rcases h5 with rfl | rfl | rfl | rfl | rfl <;> simp [tookS, sumAt] <;> omega
theorem sumAt_succ {j : Nat} (hj : j < 4) : sumAt (j + 1) = sumAt j + sizeAt j ∧ sumAt (j + 1) ≤ 12 := by
  have h5 : j = 0 ∨ j = 1 ∨ j = 2 ∨ j = 3 := by omega
  rcases h5 with rfl | rfl | rfl | rfl <;> decide
theorem numAt_lt (xs : List UInt8) (j : Nat) : numAt xs j < 256 ^ sizeAt j := by
  refine Nat.lt_of_lt_of_le (leval_lt _) (Nat.pow_le_pow_right (by decide) ?_)
  rw [List.length_take]
  exact Nat.min_le_left _ _

theorem rd_far {w : World} {g : Nat} {h : Option Nat} {st : Option (List UInt8)} (r : Rd w g h st) {L i : Nat} (hg : g ≠ L) (hh : ∀ k, h = some k → k ≠ L) (u : Value) : Rd (w.setCell ⟨L, i, none⟩ u) g h st :=
  r.keep fun k _ e => Below.heap_setCell _ _ _ _ (by
    rcases e with rfl | e
    · exact hg
    · exact hh k e.symm)
theorem arr_next {w : World} {L : Nat} {t : TypeId} {xs : List UInt8} {j na : Nat} (hj : j < 4) (hn : numAt xs j = na)
    (h : Blk w L t #[.int .u64 (numUp xs j 0 : Nat), .int .u64 (numUp xs j 1 : Nat), .int .u64 (numUp xs j 2 : Nat), .int .u64 (numUp xs j 3 : Nat)]) :
    Blk (w.setCell ⟨L, j, none⟩ (.int .u64 (na : Int))) L t #[.int .u64 (numUp xs (j + 1) 0 : Nat), .int .u64 (numUp xs (j + 1) 1 : Nat), .int .u64 (numUp xs (j + 1) 2 : Nat), .int .u64 (numUp xs (j + 1) 3 : Nat)] := by
  subst hn
  have hs := h.set_ j (.int .u64 (numAt xs j : Nat))
  have h5 : j = 0 ∨ j = 1 ∨ j = 2 ∨ j = 3 := by omega
  rcases h5 with rfl | rfl | rfl | rfl <;> simpa [numUp] using hs
theorem numsOf_up (xs : List UInt8) : numsOf xs = (numUp xs 4 0, numUp xs 4 1, numUp xs 4 2, numUp xs 4 3) := rfl
theorem numUp_lt (xs : List UInt8) (i : Nat) : numUp xs 4 i < 256 ^ sizeAt i := by
  unfold numUp
  split
  · exact numAt_lt xs i
  · exact Nat.pow_pos (by decide)
theorem leftS_took (xs : List UInt8) : leftS (some (tookS xs 4)) = xs.length - 12 := tookS_length xs (Nat.le_refl 4)

set_option maxRecDepth 100000 in
set_option maxHeartbeats 1000000 in
theorem getPoint_any (w : World) (A : Option Addr) (c : Nat) (xs : List UInt8) (hr : RV w A (bv xs)) (hx : xs.length ≤ 140737488355328) :
    Calls Try.prog 9 #[.slice A xs.length c] w (GetPointEnd w (getPointS xs)) := by
  have HR := Lib.hid hr
  clear hr
  go_enter Try.func9, Try.ntmps9
  go_wp2_with fail
  refine (new_any _ A c xs (HR.out.alloc _) hx).mono ?_
  rintro e w1 ⟨g, h, rfl, hrd, hb1, hg1, hg2, hh⟩
  have H1 := Lib.hid (And.intro hrd (And.intro hb1 (And.intro hg1 (And.intro hg2 hh))))
  clear hrd hb1 hg1 hh
  have hgL : g ≠ w1.heap.size := by omega
  have hrL : w.heap.size ≠ w1.heap.size := by have := H1.out.2.1.size; simp at this; omega
  have hgr : g ≠ w.heap.size := by have := H1.out.2.2.1; simp at this; omega
  have hhL : ∀ k, h = some k → k ≠ w1.heap.size := fun k hk => by have := (H1.out.2.2.2.2 k hk).2; omega
  have hhr : ∀ k, h = some k → k ≠ w.heap.size := fun k hk => by have := (H1.out.2.2.2.2 k hk).1; simp at this; omega
  have HH := Lib.hid (And.intro hhL hhr)
  have hwl := below_new H1.out.2.1
  have HW := Lib.hid hwl
  clear hhL hhr hwl
  have hres0 : Blk w1 w.heap.size 26 #[.int .u64 0, .int .i64 0, .int .i64 0, .int .i64 0] := (Blk.new w _ _).below H1.out.2.1 (by simp)
  have HR0 := Lib.hid hres0
  clear hres0
  have i0 : ∀ w : World, (Instr.index 44 (.agg #[.int .i64 8, .int .i64 1, .int .i64 1, .int .i64 2]) (.int .i64 0)).run Try.prog w = .ok (.int .i64 8) w := fun _ => by kernel_rfl
  have i1 : ∀ w : World, (Instr.index 44 (.agg #[.int .i64 8, .int .i64 1, .int .i64 1, .int .i64 2]) (.int .i64 1)).run Try.prog w = .ok (.int .i64 1) w := fun _ => by kernel_rfl
  have i2 : ∀ w : World, (Instr.index 44 (.agg #[.int .i64 8, .int .i64 1, .int .i64 1, .int .i64 2]) (.int .i64 2)).run Try.prog w = .ok (.int .i64 1) w := fun _ => by kernel_rfl
  have i3 : ∀ w : World, (Instr.index 44 (.agg #[.int .i64 8, .int .i64 1, .int .i64 1, .int .i64 2]) (.int .i64 3)).run Try.prog w = .ok (.int .i64 2) w := fun _ => by kernel_rfl
  go_wp2_with fail
  go_loopg [14] 4 (fun k i wr => ∃ j : Nat, j + k = 4 ∧ i = .int .i64 j ∧ Rd wr g h (some (tookS xs j)) ∧ Blk wr w1.heap.size 43 #[.int .u64 (numUp xs j 0), .int .u64 (numUp xs j 1), .int .u64 (numUp xs j 2), .int .u64 (numUp xs j 3)] ∧ Blk wr w.heap.size 26 #[.int .u64 0, .int .i64 0, .int .i64 0, .int .i64 0] ∧ Below w.heap.size w wr ∧ sumAt j ≤ xs.length)
  case atStart => exact ⟨0, rfl, rfl, H1.out.1.below ((Below.refl _ _).alloc (Nat.le_refl _) _), Blk.new _ _ _, HR0.out.alloc _, HW.out.alloc HW.out.size _, Nat.zero_le _⟩
  case round =>
    obtain ⟨j, hj, rfl, hrd, harr, hres, hbw, hsum⟩ := hrel
    have HX := Lib.hid (And.intro hj (And.intro hrd (And.intro harr (And.intro hres (And.intro hbw hsum)))))
    clear hrd harr hres hbw hsum
    by_cases hlt : j < 4
    · have hj4 : j = 0 ∨ j = 1 ∨ j = 2 ∨ j = 3 := by omega
      clear hlt
      by_cases hs : (tookS xs j).length < sizeAt j
      · have hshort : getPointS xs = ((0, 0, 0, 0), 4) := by
          have h1 := tookS_length xs (j := j) (by omega)
          have h2 := sumAt_succ (j := j) (by omega)
          unfold getPointS
          rw [if_pos (by omega)]
        have HS := Lib.hid (And.intro hs hshort)
        clear hs hshort
        rcases hj4 with rfl | rfl | rfl | rfl
        all_goals
          go_wp2_with fail
          refine (takeNo_at HX.out.2.1 HS.out.1 _ rfl).mono ?_
          rintro e w2 ⟨rfl, hg2⟩
          have hk := HX.out.2.2.2.1.grown hg2 (by simp; exact hgr.symm)
          have hk2 := hk.set_ 0 (.int .u64 0)
          have f0 := hk.frozen 0
          have f1 := hk.frozen 1
          have f2 := hk.frozen 2
          have f3 := hk.frozen 3
          have k0 := hk.cell 0
          have k1 := hk.cell 1
          have k2 := hk.cell 2
          have k3 := hk.cell 3
          simp at k0 k1 k2 k3
          have H2 := Lib.hid (And.intro hk (below_grown HX.out.2.2.2.2.1 hg2 HX.out.2.2.2.2.1.size (by have := H1.out.2.2.1; simp at this; omega)))
          clear hk hk2 hg2
          go_wp2_with fail
          refine post_cell2 Try.results9 Try.underlying26 rfl _ rfl (H2.out.1.set4 _ _ _ _) (by kernel_rfl) ?_
          rw [HS.out.2]
          exact ⟨rfl, below_set4 H2.out.2 (Nat.le_refl _) _ _ _ _⟩
      · have hs8 : sumAt (j + 1) ≤ xs.length := by
          have h1 := tookS_length xs (j := j) (by omega)
          have h2 := sumAt_succ (j := j) (by omega)
          have h3 : 1 ≤ sizeAt j := (isSz_le (sizeAt_ok j)).1
          omega
        have HS := Lib.hid (And.intro hs hs8)
        clear hs hs8
        rcases hj4 with rfl | rfl | rfl | rfl
        all_goals
          go_wp2_with fail
          refine (takeOk_at HX.out.2.1 HS.out.1 (by omega) _ rfl).mono ?_
          rintro e w2 ⟨rfl, hrd2, hg2⟩
          have hk := HX.out.2.2.1.grown hg2 (by simp; exact hgL.symm)
          have f0 := hk.frozen 0
          have f1 := hk.frozen 1
          have f2 := hk.frozen 2
          have f3 := hk.frozen 3
          have k0 := hk.cell 0
          have k1 := hk.cell 1
          have k2 := hk.cell 2
          have k3 := hk.cell 3
          simp at k0 k1 k2 k3
          have H2 := Lib.hid (And.intro hk (And.intro hrd2 (And.intro (HX.out.2.2.2.1.grown hg2 (by simp; exact hgr.symm)) (below_grown HX.out.2.2.2.2.1 hg2 HX.out.2.2.2.2.1.size (by have := H1.out.2.2.1; simp at this; omega)))))
          clear hk hg2 hrd2
          generalize hna : numAt xs _ = na at *
          have HNA := Lib.hid hna
          clear hna
          go_wp2_with fail
          go_roundg (gk - 1)
          case measure => omega
          case rel => exact ⟨_, by omega, by go_num, rd_far H2.out.2.1 hgL HH.out.1 _, arr_next (by omega) HNA.out H2.out.1, H2.out.2.2.1.far (p := ⟨w1.heap.size, _, none⟩) hrL _, H2.out.2.2.2.setCell (p := ⟨w1.heap.size, _, none⟩) (by have := HW.out.size; exact this) _, HS.out.2⟩
    · obtain rfl : j = 4 := by omega
      have hk := HX.out.2.2.1
      have k0 := hk.cell 0
      have k1 := hk.cell 1
      have k2 := hk.cell 2
      have k3 := hk.cell 3
      simp at k0 k1 k2 k3
      clear hk
      have l0 := numUp_lt xs 0
      have l1 := numUp_lt xs 1
      have l2 := numUp_lt xs 2
      have l3 := numUp_lt xs 3
      have hq := numsOf_up xs
      have hget : getPointS xs = if mayP (numsOf xs).1 (numsOf xs).2.1 (numsOf xs).2.2.1 (numsOf xs).2.2.2 ∧ xs.length = 12 then (numsOf xs, 0) else ((0, 0, 0, 0), 5) := if_neg (by have := HX.out.2.2.2.2.2; simp [sumAt] at this; omega)
      rw [hq] at hget
      simp only [sizeAt] at l0 l1 l2 l3
      generalize numUp xs 4 0 = n0 at *
      generalize numUp xs 4 1 = n1 at *
      generalize numUp xs 4 2 = n2 at *
      generalize numUp xs 4 3 = n3 at *
      have l0 : n0 < 18446744073709551616 := l0
      have l1 : n1 < 256 := l1
      have l2 : n2 < 256 := l2
      have l3 : n3 < 65536 := l3
      have HG := Lib.hid hget
      have hr := HX.out.2.2.2.1
      have f0 := hr.frozen 0
      have f1 := hr.frozen 1
      have f2 := hr.frozen 2
      have f3 := hr.frozen 3
      have r0 := hr.cell 0
      have r1 := hr.cell 1
      have r2 := hr.cell 2
      have r3 := hr.cell 3
      simp at r0 r1 r2 r3
      clear hget hq hr
      go_wp2_with fail
      refine (may_any _ n0 n1 n2 n3 l0).mono ?_
      rintro e w3 ⟨rfl, hb3⟩
      have hP := (Blk.new wr 26 #[.int .u64 (n0 : Int), .int .i64 (n1 : Int), .int .i64 (n2 : Int), .int .i64 (n3 : Int)]).below hb3 (by simp)
      have hZ := (HX.out.2.2.2.1.alloc (.cells #[.int .u64 (n0 : Int), .int .i64 (n1 : Int), .int .i64 (n2 : Int), .int .i64 (n3 : Int)] 26)).below hb3 (by have := HX.out.2.2.2.1.lt; simp; omega)
      have hrd3 := (HX.out.2.1.below ((Below.refl _ _).alloc (Nat.le_refl _) (.cells #[.int .u64 (n0 : Int), .int .i64 (n1 : Int), .int .i64 (n2 : Int), .int .i64 (n3 : Int)] 26))).below hb3
      have hB := below_then HX.out.2.2.2.2.1 HX.out.2.2.2.2.1.size (below_new hb3)
      clear f0 f1 f2 f3 r0 r1 r2 r3 k0 k1 k2 k3
      have p0 := hP.cell 0
      have p1 := hP.cell 1
      have p2 := hP.cell 2
      have p3 := hP.cell 3
      simp at p0 p1 p2 p3
      have f0 := hZ.frozen 0
      have f1 := hZ.frozen 1
      have f2 := hZ.frozen 2
      have f3 := hZ.frozen 3
      have r0 := hZ.cell 0
      have r1 := hZ.cell 1
      have r2 := hZ.cell 2
      have r3 := hZ.cell 3
      simp at r0 r1 r2 r3
      have H3 := Lib.hid (And.intro hrd3 (And.intro hB hZ))
      clear hrd3 hB hZ hP hb3
      by_cases hmay : mayP n0 n1 n2 n3
      · rw [decide_eq_true hmay]
        by_cases h12 : xs.length = 12
        · have hres : getPointS xs = ((n0, n1, n2, n3), 0) := by rw [HG.out, if_pos ⟨hmay, h12⟩]
          have HRES := Lib.hid hres
          clear hres hmay
          have hl := leftS_took xs
          rw [h12] at hl
          have HL := Lib.hid hl
          clear hl h12
          go_wp2_with (go_at_call 21; refine (left_any H3.out.1).mono ?_; rintro e w4 ⟨rfl, rfl⟩; rw [HL.out])
          refine post_cell2 Try.results9 Try.underlying26 rfl _ rfl (H3.out.2.2.set4 _ _ _ _) (by kernel_rfl) ?_
          rw [HRES.out]
          exact ⟨rfl, below_set4 H3.out.2.1 (Nat.le_refl _) _ _ _ _⟩
        · have hres : getPointS xs = ((0, 0, 0, 0), 5) := by rw [HG.out, if_neg (fun h => h12 h.2)]
          have HRES := Lib.hid hres
          clear hres hmay
          have hl := leftS_took xs
          obtain ⟨m, hm⟩ : ∃ m, xs.length - 12 = m := ⟨_, rfl⟩
          have hm0 : 0 < m := by have := HX.out.2.2.2.2.2; simp [sumAt] at this; omega
          rw [hm] at hl
          have HL := Lib.hid hl
          clear hl h12 hm
          go_wp2_with (go_at_call 21; refine (left_any H3.out.1).mono ?_; rintro e w4 ⟨rfl, rfl⟩; rw [HL.out])
          refine post_cell2 Try.results9 Try.underlying26 rfl _ rfl (H3.out.2.2.set4 _ _ _ _) (by kernel_rfl) ?_
          rw [HRES.out]
          exact ⟨rfl, below_set4 H3.out.2.1 (Nat.le_refl _) _ _ _ _⟩
      · rw [decide_eq_false hmay]
        have hres : getPointS xs = ((0, 0, 0, 0), 5) := by rw [HG.out, if_neg (fun h => hmay h.1)]
        have HRES := Lib.hid hres
        clear hres hmay
        go_wp2_with fail
        refine post_cell2 Try.results9 Try.underlying26 rfl _ rfl (H3.out.2.2.set4 _ _ _ _) (by kernel_rfl) ?_
        rw [HRES.out]
        exact ⟨rfl, below_set4 H3.out.2.1 (Nat.le_refl _) _ _ _ _⟩
end Go.Proofs.Ytakjjfohjodepaa
