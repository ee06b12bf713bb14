import Derived.Deep.QuietTactic
import Derived.BigQuiet
import Derived.StillTailTactics
import Derived.Test.YtlioclicopakbaaProg
import Derived.Test.YtlioclicopakbaaMBase
import Derived.Test.YtlioclicopakbaaBelowNM
set_option linter.unusedVariables false
set_option linter.unusedSimpArgs false
/- Comparisons of Go's library; which key stands ahead of which: contracts. -/
namespace Go.Proofs.Ytlioclicopakbaa
open Go.RowKit

theorem cmpInt_any (w : World) (x y : Int) : Calls Try.prog 59 #[.int .i64 x, .int .i64 y] w fun e w' => e = .returned (.int .i64 (cmpI x y)) ∧ w' = w := by
  go_enter Try.func59, Try.ntmps59
  go_wp2
  all_goals
    go_ret
    refine ⟨ret_int ?_, rfl⟩
    unfold cmpI
    by_cases h1 : x < y
    · rw [if_pos h1] <;> first | rfl | omega
    · rw [if_neg h1]
      by_cases h2 : y < x
      · rw [if_pos h2] <;> first | rfl | omega
      · rw [if_neg h2] <;> first | rfl | omega
theorem cmpByte_any (w : World) (x y : Int) : Calls Try.prog 60 #[.int .u8 x, .int .u8 y] w fun e w' => e = .returned (.int .i64 (cmpI x y)) ∧ w' = w := by
  go_enter Try.func60, Try.ntmps60
  go_wp2
  all_goals
    go_ret
    refine ⟨ret_int ?_, rfl⟩
    unfold cmpI
    by_cases h1 : x < y
    · rw [if_pos h1] <;> first | rfl | omega
    · rw [if_neg h1]
      by_cases h2 : y < x
      · rw [if_pos h2] <;> first | rfl | omega
      · rw [if_neg h2] <;> first | rfl | omega
theorem cmpString_any (w : World) (x y : ByteArray) : Calls Try.prog 61 #[.string x, .string y] w fun e w' => e = .returned (.int .i64 (cmpB x y)) ∧ w' = w := by
  go_enter Try.func61, Try.ntmps61
  go_wp2
  all_goals
    go_ret
    refine ⟨ret_int ?_, rfl⟩
    unfold cmpB
    by_cases h1 : Op.bytesLess x.toList y.toList = true
    · rw [if_pos h1] <;> first | rfl | (exfalso; simp_all; done)
    · rw [if_neg h1]
      by_cases h2 : x.toList = y.toList
      · rw [if_pos h2] <;> first | rfl | (exfalso; simp_all; done)
      · rw [if_neg h2] <;> first | rfl | (exfalso; simp_all; done)

theorem or4_any (w : World) (g : Nat) (a b c d : Int) (h0 : w.cell? ⟨g, 0, none⟩ = some (.int .i64 a)) (h1 : w.cell? ⟨g, 1, none⟩ = some (.int .i64 b)) (h2 : w.cell? ⟨g, 2, none⟩ = some (.int .i64 c)) (h3 : w.cell? ⟨g, 3, none⟩ = some (.int .i64 d)) :
    Calls Try.prog 58 #[.slice (some ⟨g, 0, none⟩) 4 4] w fun e w' => e = .returned (.int .i64 (orI [a, b, c, d])) ∧ w' = w := by
  have hcell : ∀ j (hj : j < 4), w.cell? ⟨g, j, none⟩ = some (.int .i64 ([a, b, c, d].getD j 0)) := by
    intro j hj
    have h5 : j = 0 ∨ j = 1 ∨ j = 2 ∨ j = 3 := by omega
    rcases h5 with rfl | rfl | rfl | rfl
    · exact h0
    · exact h1
    · exact h2
    · exact h3
  have hor : ∀ j (hj : j < 4), orI ([a, b, c, d].drop j) = if [a, b, c, d].getD j 0 = 0 then orI ([a, b, c, d].drop (j + 1)) else [a, b, c, d].getD j 0 := by
    intro j hj
    have h5 : j = 0 ∨ j = 1 ∨ j = 2 ∨ j = 3 := by omega
    rcases h5 with rfl | rfl | rfl | rfl <;> rfl
  have H := Lib.hid (And.intro hcell hor)
  clear h0 h1 h2 h3 hcell hor
  generalize hl : [a, b, c, d] = l at H
  have HL := Lib.hid hl
  clear hl
  go_enter Try.func58, Try.ntmps58
  go_wp2_with fail
  go_loopg [8] 4 (fun k i wr => ∃ j : Nat, j + k = 4 ∧ i = .int .i64 j ∧ wr = w ∧ orI (l.drop j) = orI l)
  case atStart => exact ⟨0, rfl, rfl, rfl, rfl⟩
  case round =>
    obtain ⟨j, hj, rfl, rfl, ho⟩ := hrel
    have HX := Lib.hid (And.intro hj ho)
    clear hj ho
    by_cases hlt : j < 4
    · have hc := H.out.1 j hlt
      have hz := H.out.2 j hlt
      generalize l.getD j 0 = x at hc hz
      by_cases hx : x = 0
      · rw [if_pos hx] at hz
        have HZ := Lib.hid hz
        have hb : (x != 0) = false := by simp [hx]
        clear hz
        subst hx
        go_wp2_with fail
        go_roundg (4 - (j + 1))
        case measure => have := HX.out.1; omega
        case rel => exact ⟨j + 1, by have := HX.out.1; omega, by go_num, rfl, by rw [← HZ.out]; exact HX.out.2⟩
      · rw [if_neg hx] at hz
        have HZ := Lib.hid (HX.out.2.symm.trans hz)
        have hb : (x != 0) = true := by simp [hx]
        clear hz
        go_wp2_with fail
        go_ret
        exact ⟨ret_int HZ.out.symm, rfl⟩
    · obtain rfl : j = 4 := by have := HX.out.1; omega
      have hfin : orI l = 0 := by rw [← HX.out.2, ← HL.out]; rfl
      have HF := Lib.hid hfin
      clear hfin
      go_wp2_with fail
      go_ret
      exact ⟨ret_int HF.out.symm, rfl⟩

theorem or4_new (w : World) (e : TypeId) (a b c d : Int) : Calls Try.prog 58 #[.slice (some ⟨w.heap.size, 0, none⟩) 4 4] (w.alloc (.cells #[.int .i64 a, .int .i64 b, .int .i64 c, .int .i64 d] e)) fun e' w' => e' = .returned (.int .i64 (orI [a, b, c, d])) ∧ w' = w.alloc (.cells #[.int .i64 a, .int .i64 b, .int .i64 c, .int .i64 d] e) := by
  have h := Blk.new w e #[.int .i64 a, .int .i64 b, .int .i64 c, .int .i64 d]
  exact or4_any _ _ a b c d (h.cell 0) (h.cell 1) (h.cell 2) (h.cell 3)
/-- Two keys that were laid first. -/
def KBlk (w : World) (g : Nat) (k : Ky) : Prop := Blk w g 33 #[.int .i64 k.ino, .int .u8 (k.what.toNat : Int), .string k.name, .int .i64 k.chunk]

set_option maxRecDepth 100000 in
set_option maxHeartbeats 1000000 in
theorem orderK_any (w : World) (a b : Ky) : Calls Try.prog 54 #[a.val, b.val] w fun e w' => e = .returned (.int .i64 (ordK a b)) ∧ Below w.heap.size w w' := by
  obtain ⟨i1, k1, s1, c1⟩ := a
  obtain ⟨i2, k2, s2, c2⟩ := b
  unfold Ky.val ordK
  dsimp only
  generalize hk1 : (k1.toNat : Int) = n1
  generalize hk2 : (k2.toNat : Int) = n2
  clear hk1 hk2
  go_enter Try.func54, Try.ntmps54
  go_wp2_with fail
  have hb : Below w.heap.size w ((w.alloc (.cells #[.int .i64 i1, .int .u8 n1, .string s1, .int .i64 c1] 33)).alloc (.cells #[.int .i64 i2, .int .u8 n2, .string s2, .int .i64 c2] 33)) := ((Below.refl _ _).alloc (Nat.le_refl _) _).alloc (by simp) _
  have hA : Blk ((w.alloc (.cells #[.int .i64 i1, .int .u8 n1, .string s1, .int .i64 c1] 33)).alloc (.cells #[.int .i64 i2, .int .u8 n2, .string s2, .int .i64 c2] 33)) w.heap.size 33 #[.int .i64 i1, .int .u8 n1, .string s1, .int .i64 c1] := (Blk.new _ _ _).alloc _
  have hB : Blk ((w.alloc (.cells #[.int .i64 i1, .int .u8 n1, .string s1, .int .i64 c1] 33)).alloc (.cells #[.int .i64 i2, .int .u8 n2, .string s2, .int .i64 c2] 33)) (w.heap.size + 1) 33 #[.int .i64 i2, .int .u8 n2, .string s2, .int .i64 c2] := by
    have := Blk.new (w.alloc (.cells #[.int .i64 i1, .int .u8 n1, .string s1, .int .i64 c1] 33)) 33 #[.int .i64 i2, .int .u8 n2, .string s2, .int .i64 c2]
    simpa using this
  generalize ((w.alloc (.cells #[.int .i64 i1, .int .u8 n1, .string s1, .int .i64 c1] 33)).alloc (.cells #[.int .i64 i2, .int .u8 n2, .string s2, .int .i64 c2] 33)) = w2 at *
  have a0 := hA.cell 0
  have a1 := hA.cell 1
  have a2 := hA.cell 2
  have a3 := hA.cell 3
  have b0 := hB.cell 0
  have b1 := hB.cell 1
  have b2 := hB.cell 2
  have b3 := hB.cell 3
  simp at a0 a1 a2 a3 b0 b1 b2 b3
  have HB := Lib.hid hb
  clear hb hA hB
  refine wp_region_still_tail 20 (by kernel_rfl) (by kernel_rfl) ?_
  simp only [List.take_succ_cons, List.take_zero, List.drop_succ_cons, List.drop_zero]
  repeat still_step
  still_call (cmpInt_any _ _ _)
  repeat still_step
  still_call (cmpByte_any _ _ _)
  repeat still_step
  still_call (cmpString_any _ _ _)
  repeat still_step
  still_call (cmpInt_any _ _ _)
  repeat still_step
  refine wpStill_nil ?_
  change wpList _ _ _ _ _ w2.drew
  generalize hx1 : cmpI i1 i2 = x1
  generalize hx2 : cmpI n1 n2 = x2
  generalize hx3 : cmpB s1 s2 = x3
  generalize hx4 : cmpI c1 c2 = x4
  have HX := Lib.hid (And.intro hx1 (And.intro hx2 (And.intro hx3 hx4)))
  clear hx1 hx2 hx3 hx4
  have hd : Below w.heap.size w w2.drew := HB.out.drew
  have HD := Lib.hid hd
  clear hd a0 a1 a2 a3 b0 b1 b2 b3
  generalize w2.drew = w3 at *
  go_wp2_with fail
  refine (or4_new w3 _ x1 x2 x3 x4).mono ?_
  rintro e w4 ⟨rfl, rfl⟩
  go_wp2_with fail
  go_ret
  refine ⟨?_, HD.out.alloc HD.out.size _⟩
  rw [HX.out.1, HX.out.2.1, HX.out.2.2.1, HX.out.2.2.2]
  rfl

theorem beforeK_any (w : World) (a b : Ky) : Calls Try.prog 44 #[a.val, b.val] w fun e w' => e = .returned (.bool (decide (keyLt a b))) ∧ Below w.heap.size w w' := by
  obtain ⟨n, hn⟩ : ∃ n, ordK a b = n := ⟨_, rfl⟩
  have H := fun w => orderK_any w a b
  rw [hn] at H
  have HE : decide (n < 0) = decide (keyLt a b) := decide_eq_decide.2 (by unfold keyLt; rw [hn])
  have HC := Lib.hid H
  rw [← HE]
  clear H HE hn
  obtain ⟨i1, k1, s1, c1⟩ := a
  obtain ⟨i2, k2, s2, c2⟩ := b
  unfold Ky.val at *
  dsimp only at *
  generalize hk1 : (k1.toNat : Int) = n1 at *
  generalize hk2 : (k2.toNat : Int) = n2 at *
  clear hk1 hk2
  go_enter Try.func44, Try.ntmps44
  go_wp2_with (go_at_call 54; refine (HC.out _).mono ?_; rintro e w1 ⟨rfl, hb⟩; have HB := Lib.hid (below_new (below_new hb)); clear hb)
  go_ret
  exact ⟨rfl, HB.out⟩
end Go.Proofs.Ytlioclicopakbaa
