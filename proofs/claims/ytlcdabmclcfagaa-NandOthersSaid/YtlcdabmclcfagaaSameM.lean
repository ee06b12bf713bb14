import Derived.Deep.QuietTactic
import Derived.BigQuiet
import Derived.Test.YtlcdabmclcfagaaProg
import Derived.Test.YtlcdabmclcfagaaMBase
set_option linter.unusedVariables false
set_option linter.unusedSimpArgs false
/- Contract of the statements' own comparison of bytes. -/
namespace Go.Proofs.Ytlcdabmclcfagaa
open Go.RowKit

theorem byte_ne_iff {xs ys : List UInt8} {k : Nat} {a b : UInt8} (hx : xs[k]? = some a) (hy : ys[k]? = some b) (hne : ((a.toNat : Int) != (b.toNat : Int)) = true) : xs ≠ ys := by
  rintro rfl
  rw [hx] at hy
  obtain rfl := Option.some.inj hy
  simp at hne
theorem take_succ_eq {xs ys : List UInt8} {k : Nat} {a b : UInt8} (hx : xs[k]? = some a) (hy : ys[k]? = some b) (he : ((a.toNat : Int) != (b.toNat : Int)) = false) (h : xs.take k = ys.take k) : xs.take (k + 1) = ys.take (k + 1) := by
  have h1 : (a.toNat : Int) = b.toNat := by simpa using he
  obtain rfl : a = b := UInt8.toNat.inj (by omega)
  rw [List.take_add_one, List.take_add_one, hx, hy, h]

set_option maxHeartbeats 400000 in
theorem same_any (A B : Option Addr) (c d : Nat) (xs ys : List UInt8) (w : World) (ha : RV w A (bv xs)) (hb : RV w B (bv ys)) (lx : xs.length ≤ maxLen) (ly : ys.length ≤ maxLen) :
    Calls Try.prog 14 #[.slice A xs.length c, .slice B ys.length d] w fun e w' => e = .returned (.bool (decide (xs = ys))) ∧ Drawn w w' := by
  unfold maxLen at lx ly
  by_cases hl : xs.length = ys.length
  · have Hl := Lib.hid hl
    have hn : ((xs.length : Int) != (ys.length : Int)) = false := by simp [hl]
    have Ha := Lib.hid ha
    have Hb := Lib.hid hb
    clear ha hb hl
    go_enter Try.func14, Try.ntmps14
    go_wp2_with fail
    go_loopg [5] (xs.length) (fun k i wr => ∃ j n : Nat, j + k = xs.length ∧ i = .int .i64 j ∧ wr = w.drewN n ∧ xs.take j = ys.take j)
    case atStart => exact ⟨0, 0, by omega, rfl, rfl, rfl⟩
    case round =>
      obtain ⟨j, n, hj, rfl, rfl, ht⟩ := hrel
      have Ht := Lib.hid ht
      have Hj := Lib.hid hj
      by_cases hlt : j < xs.length
      · obtain ⟨ad, rfl, hc⟩ := Ha.out (by rw [bv_length]; omega)
        obtain ⟨bd, rfl, hd⟩ := Hb.out (by rw [bv_length]; have := Hl.out; omega)
        have hj2 : j < ys.length := by have := Hl.out; omega
        have e1 : xs[j]? = some xs[j] := List.getElem?_eq_getElem hlt
        have e2 : ys[j]? = some ys[j] := List.getElem?_eq_getElem hj2
        generalize xs[j] = a at e1
        generalize ys[j] = b at e2
        have c1 := hc j (.int .u8 a.toNat) (by rw [bv_get, e1]; rfl)
        have c2 := hd j (.int .u8 b.toNat) (by rw [bv_get, e2]; rfl)
        have E1 := Lib.hid e1
        have E2 := Lib.hid e2
        clear hc hd e1 e2 ht hj
        go_wp2_with fail
        go_quiet (fail)
        go_wp2_with fail
        · have hne := byte_ne_iff E1.out E2.out ‹_›
          go_ret
          exact ⟨ret_bool (decide_eq_false hne).symm, (Drawn.mk w n).step nq⟩
        · have hne := take_succ_eq E1.out E2.out ‹_› Ht.out
          have Hne := Lib.hid hne
          clear hne
          go_roundg (xs.length - (j + 1))
          case measure => have := Hj.out; omega
          case rel => exact ⟨j + 1, n + nq, by omega, by go_num, rfl, Hne.out⟩
      · have hj0 : j = xs.length := by have := Hj.out; omega
        subst hj0
        go_wp2_with fail
        go_ret
        have h1 := Ht.out
        rw [List.take_of_length_le (Nat.le_refl _), List.take_of_length_le (by have := Hl.out; omega)] at h1
        exact ⟨ret_bool (decide_eq_true h1).symm, Drawn.mk w n⟩
  · have hn : ((xs.length : Int) != (ys.length : Int)) = true := by simp; omega
    have hne : xs ≠ ys := fun h => hl (by rw [h])
    have Hne := Lib.hid hne
    clear hl hne
    go_enter Try.func14, Try.ntmps14
    go_wp2_with fail
    go_ret
    exact ⟨ret_bool (decide_eq_false Hne.out).symm, Drawn.refl w⟩
end Go.Proofs.Ytlcdabmclcfagaa
