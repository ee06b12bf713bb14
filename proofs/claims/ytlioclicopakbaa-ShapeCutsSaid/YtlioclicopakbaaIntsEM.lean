import Derived.Deep.QuietTactic
import Derived.BigQuiet
import Derived.Test.YtlioclicopakbaaIntsM
set_option linter.unusedVariables false
set_option linter.unusedSimpArgs false
/- Contract of the statements' own comparison of numbers. -/
namespace Go.Proofs.Ytlioclicopakbaa
open Go.RowKit

theorem iv_get (l : List Nat) (j : Nat) : (iv l)[j]? = (l[j]?).map fun (k : Nat) => Value.int .i64 (k : Int) := by simp [iv]
theorem rvI_lit (w : World) (e : TypeId) (k : Nat) : RV (w.alloc (.cells #[.int .i64 (k : Int)] e)) (some ⟨w.heap.size, 0, none⟩) (iv [k]) := fun _ => ⟨_, rfl, fun j u hu => by
  rw [add_lit0, (Blk.new w e #[.int .i64 (k : Int)]).cell]
  simpa [iv] using hu⟩

set_option maxHeartbeats 400000 in
theorem ints_any (A B : Option Addr) (c d : Nat) (xs ys : List Nat) (w : World) (ha : RV w A (iv xs)) (hb : RV w B (iv ys)) (lx : xs.length ≤ maxLen) (ly : ys.length ≤ maxLen) :
    Calls Try.prog 10 #[.slice A xs.length c, .slice B ys.length d] w fun e w' => e = .returned (.bool (decide (xs = ys))) ∧ Drawn w w' := by
  unfold maxLen at lx ly
  by_cases hl : xs.length = ys.length
  · have Hl := Lib.hid hl
    have hn : ((xs.length : Int) != (ys.length : Int)) = false := by simp [hl]
    have Ha := Lib.hid ha
    have Hb := Lib.hid hb
    clear ha hb hl
    go_enter Try.func10, Try.ntmps10
    go_wp2_with fail
    go_loopg [5] (xs.length) (fun k i wr => ∃ j n : Nat, j + k = xs.length ∧ i = .int .i64 j ∧ wr = w.drewN n ∧ xs.take j = ys.take j)
    case atStart => exact ⟨0, 0, by omega, rfl, rfl, rfl⟩
    case round =>
      obtain ⟨j, n, hj, rfl, rfl, ht⟩ := hrel
      have Ht := Lib.hid ht
      have Hj := Lib.hid hj
      by_cases hlt : j < xs.length
      · obtain ⟨ad, rfl, hc⟩ := Ha.out (by rw [iv_length]; omega)
        obtain ⟨bd, rfl, hd⟩ := Hb.out (by rw [iv_length]; have := Hl.out; omega)
        have hj2 : j < ys.length := by have := Hl.out; omega
        have e1 : xs[j]? = some xs[j] := List.getElem?_eq_getElem hlt
        have e2 : ys[j]? = some ys[j] := List.getElem?_eq_getElem hj2
        generalize xs[j] = a at e1
        generalize ys[j] = b at e2
        have c1 := hc j (.int .i64 (a : Int)) (by rw [iv_get, e1]; rfl)
        have c2 := hd j (.int .i64 (b : Int)) (by rw [iv_get, e2]; rfl)
        have E1 := Lib.hid e1
        have E2 := Lib.hid e2
        clear hc hd e1 e2 ht hj
        by_cases hab : a = b
        · subst hab
          have hne : xs.take (j + 1) = ys.take (j + 1) := by rw [List.take_add_one, List.take_add_one, E1.out, E2.out, Ht.out]
          have Hne := Lib.hid hne
          clear hne
          go_wp2_with fail
          go_quiet (fail)
          go_wp2_with fail
          go_roundg (xs.length - (j + 1))
          case measure => have := Hj.out; omega
          case rel => exact ⟨j + 1, n + nq, by omega, by go_num, rfl, Hne.out⟩
        · have tne : ((a : Int) != (b : Int)) = true := by simp; omega
          have hne : xs ≠ ys := by
            intro h
            rw [h, E2.out] at E1
            exact hab (Option.some.inj E1.out).symm
          have Hne := Lib.hid hne
          clear hne hab
          go_wp2_with fail
          go_quiet (fail)
          go_wp2_with fail
          go_ret
          exact ⟨ret_bool (decide_eq_false Hne.out).symm, (Drawn.mk w n).step nq⟩
      · have hj0 : j = xs.length := by have := Hj.out; omega
        subst hj0
        go_wp2_with fail
        go_ret
        have h1 := Ht.out
        rw [List.take_of_length_le (Nat.le_refl _), List.take_of_length_le (by have := Hl.out; omega)] at h1
        exact ⟨ret_bool (decide_eq_true h1).symm, Drawn.mk w n⟩
  · have hn : ((xs.length : Int) != (ys.length : Int)) = true := by simp; omega
    have hne : xs ≠ ys := fun h => hl (by rw [h])
    have Hne := Lib.hid hne
    clear hl hne
    go_enter Try.func10, Try.ntmps10
    go_wp2_with fail
    go_ret
    exact ⟨ret_bool (decide_eq_false Hne.out).symm, Drawn.refl w⟩
/-- .. of the same numbers. -/
theorem ints_eq (A B : Option Addr) (c d n m : Nat) (xs : List Nat) (w : World) (ha : RV w A (iv xs)) (hb : RV w B (iv xs)) (hn : xs.length = n) (hm : xs.length = m) (lx : n ≤ maxLen) :
    Calls Try.prog 10 #[.slice A n c, .slice B m d] w fun e w' => e = .returned (.bool true) ∧ Below w.heap.size w w' := by
  subst hn
  subst hm
  exact (ints_any A B c d xs xs w ha hb lx lx).mono fun e w' ⟨he, hd⟩ => ⟨by rw [he, decide_eq_true rfl], hd.below _⟩
end Go.Proofs.Ytlioclicopakbaa
