import Derived.Test.YtlcdabmclcfagaaMBase
import Derived.Test.YtlcdabmclcfagaaSameM
set_option linter.unusedVariables false
set_option linter.unusedSimpArgs false
/- Bytes with room behind them. -/
namespace Go.Proofs.Ytlcdabmclcfagaa
open Go.RowKit

/-! ### Wide -/
def WideEnd (w : World) (xs : List UInt8) (e : Ending) (w' : World) : Prop :=
  ∃ g, e = .returned (.slice (some ⟨g, 0, none⟩) xs.length (xs.length + 3)) ∧ w.heap.size ≤ g ∧ RowB 5 w' g (xs ++ [7, 7, 7]) ∧ Below w.heap.size w w'

theorem take_append_get {α : Type} {l m : List α} {j : Nat} {b : α} (hm : m[j]? = some b) (h : l.take j = m.take j) (hj : j < l.length) : (l.set j b).take (j + 1) = m.take (j + 1) := set_take h hj hm

set_option maxHeartbeats 1000000 in
theorem wide_any (w : World) (A : Option Addr) (c : Nat) (xs : List UInt8) (hr : RV w A (bv xs)) (hx : xs.length ≤ 140737488355328) :
    Calls Try.prog 25 #[.slice A xs.length c] w (WideEnd w xs) := by
  have hmk := make_bytes (P := Try.prog) 22 5 Try.underlying22 u8info (xs.length + 3) (by omega)
  rw [show (((xs.length + 3 : Nat)) : Int) = (xs.length : Int) + 3 from by omega] at hmk
  have HR := Lib.hid hr
  clear hr
  go_enter Try.func25, Try.ntmps25
  go_wp2_with fail
  go_loopg [4] (xs.length) (fun k i wr => ∃ (j : Nat) (full : List UInt8), j + k = xs.length ∧ i = .int .i64 j ∧ RowB 5 wr w.heap.size full ∧ full.length = xs.length + 3 ∧ full.take j = xs.take j ∧ Below w.heap.size w wr)
  case atStart => exact ⟨0, List.replicate (xs.length + 3) 0, by omega, rfl, RowB.made w _ _, by simp, rfl, (Below.refl _ _).alloc (Nat.le_refl _) _⟩
  case round =>
    obtain ⟨j, full, hj, rfl, hrow, hl, ht, hb⟩ := hrel
    have HX := Lib.hid (show j + gk = xs.length ∧ full.length = xs.length + 3 ∧ full.take j = xs.take j ∧ RowB 5 wr w.heap.size full ∧ Below w.heap.size w wr from ⟨hj, hl, ht, hrow, hb⟩)
    have hf := hrow.frozen j
    have hcur : wr.cell? ⟨w.heap.size, j, none⟩ = some (.int .u8 ((full[j]'(by omega)).toNat : Int)) := hrow.cell (List.getElem?_eq_getElem (by omega))
    generalize (full[j]'(by omega)).toNat = old at hcur
    clear hj hl ht hrow hb
    by_cases hlt : j < xs.length
    · obtain ⟨ad, rfl, hcell⟩ := (HR.out.below HX.out.2.2.2.2).at_ (k := j) (by rw [bv_length]; omega)
      have hbj : (bv xs)[j]'(by rw [bv_length]; omega) = .int .u8 (xs[j].toNat : Int) := by simp [bv]
      rw [hbj] at hcell
      have hxj : xs[j]? = some xs[j] := List.getElem?_eq_getElem hlt
      generalize hb' : xs[j] = b at hcell hxj
      have HXJ := Lib.hid hxj
      clear hbj hxj hb'
      go_wp2_with fail
      obtain ⟨hj, hl, ht, hrow, hb⟩ := HX.out
      go_roundg (xs.length - (j + 1))
      case measure => omega
      case rel => exact ⟨j + 1, full.set j b, by omega, by go_num, hrow.set j b, by simpa using hl, set_take ht (by omega) HXJ.out, hb.setCell (Nat.le_refl _) _⟩
    · have hjx : j = xs.length := by have := HX.out.1; omega
      obtain ⟨hj, hl, ht, hrow, hb⟩ := HX.out
      rw [hjx] at ht
      have HY := Lib.hid (show full.length = xs.length + 3 ∧ full.take xs.length = xs.take xs.length ∧ RowB 5 wr w.heap.size full ∧ Below w.heap.size w wr from ⟨hl, ht, hrow, hb⟩)
      clear hj hl ht hrow hb HX hcur hf
      subst hjx
      go_wp2_with fail
      obtain ⟨wo, rfl⟩ : ∃ wo : World, wo = wr := ⟨_, rfl⟩
      go_loopg [5] 3 (fun k i wr => ∃ (j : Nat) (full : List UInt8), j + k = 3 ∧ i = .int .i64 ((xs.length : Int) + j) ∧ RowB 5 wr w.heap.size full ∧ full.length = xs.length + 3 ∧ full.take (xs.length + j) = (xs ++ [7, 7, 7]).take (xs.length + j) ∧ Below w.heap.size w wr)
      case atStart =>
        obtain ⟨hl, ht, hrow, hb⟩ := HY.out
        exact ⟨0, full, rfl, by simp, hrow, hl, by rw [Nat.add_zero, ht, List.take_left, List.take_length], hb⟩
      case round =>
        obtain ⟨i, full2, hi, rfl, hrow, hl, ht, hb⟩ := hrel
        have HZ := Lib.hid (show i + gk = 3 ∧ full2.length = xs.length + 3 ∧ full2.take (xs.length + i) = (xs ++ [7, 7, 7]).take (xs.length + i) ∧ RowB 5 wr w.heap.size full2 ∧ Below w.heap.size w wr from ⟨hi, hl, ht, hrow, hb⟩)
        have hf := hrow.frozen (xs.length + i)
        by_cases hi3 : i < 3
        · have hcur : wr.cell? ⟨w.heap.size, xs.length + i, none⟩ = some (.int .u8 ((full2[xs.length + i]'(by omega)).toNat : Int)) := hrow.cell (List.getElem?_eq_getElem (by omega))
          generalize (full2[xs.length + i]'(by omega)).toNat = old at hcur
          clear hi hl ht hrow hb
          go_wp2_with fail
          obtain ⟨hi, hl, ht, hrow, hb⟩ := HZ.out
          go_roundg (3 - (i + 1))
          case measure => omega
          case rel =>
            have h7 : (xs ++ [7, 7, 7])[xs.length + i]? = some 7 := by
              rw [List.getElem?_append_right (by omega)]
              have : xs.length + i - xs.length = i := by omega
              rw [this]
              match i, hi3 with
              | 0, _ => rfl
              | 1, _ => rfl
              | 2, _ => rfl
            exact ⟨i + 1, full2.set (xs.length + i) 7, by omega, by go_num, hrow.set' _ rfl, by simpa using hl, set_take (j := xs.length + i) ht (show xs.length + i < full2.length by omega) h7, hb.setCell (Nat.le_refl _) _⟩
        · obtain rfl : i = 3 := by omega
          rw [List.take_of_length_le (by omega), List.take_of_length_le (by simp)] at ht
          have HE := Lib.hid (And.intro ht (And.intro hrow hb))
          clear hi hl ht hrow hb hi3
          go_wp2_with fail
          go_ret
          obtain ⟨ht, hrow, hb⟩ := HE.out
          subst ht
          exact ⟨w.heap.size, rfl, Nat.le_refl _, hrow, hb⟩
end Go.Proofs.Ytlcdabmclcfagaa

/- Are bytes as they were made, the room behind them, too? -/
namespace Go.Proofs.Ytlcdabmclcfagaa
open Go.RowKit

set_option maxHeartbeats 1000000 in
theorem left_yes (w : World) (g : Nat) (B : Option Addr) (d : Nat) (xs : List UInt8) (hr : RowB 5 w g (xs ++ [7, 7, 7])) (hb : RV w B (bv xs)) (hx : xs.length ≤ 140737488355328) :
    Calls Try.prog 27 #[.slice (some ⟨g, 0, none⟩) xs.length (xs.length + 3), .slice B xs.length d] w fun e w' => e = .returned (.bool true) ∧ Drawn w w' := by
  have hrv : RV w (some ⟨g, 0, none⟩) (bv xs) := by
    have := hr.rv.take xs.length
    rwa [← bv_take, List.take_left] at this
  have hcall := same_any (some ⟨g, 0, none⟩) B (xs.length + 3) d xs xs w hrv hb (by unfold maxLen; omega) (by unfold maxLen; omega)
  rw [decide_eq_true rfl] at hcall
  have HC := Lib.hid hcall
  have HR := Lib.hid hr
  clear hrv hcall hr hb
  go_enter Try.func27, Try.ntmps27
  go_wp2_with (go_at_call 14; refine HC.out.mono ?_; rintro e w1 ⟨rfl, hd⟩; have HD := Lib.hid hd; clear hd)
  go_loopg [6] 3 (fun k i wr => ∃ j : Nat, j + k = 3 ∧ i = .int .i64 ((xs.length : Int) + j) ∧ wr = w1)
  case atStart => exact ⟨0, rfl, by simp, rfl⟩
  case round =>
    obtain ⟨j, hj, rfl, rfl⟩ := hrel
    have HJ := Lib.hid hj
    clear hj
    by_cases hlt : j < 3
    · have h7 : (xs ++ [7, 7, 7])[xs.length + j]? = some 7 := by
        rw [List.getElem?_append_right (by omega)]
        have : xs.length + j - xs.length = j := by omega
        rw [this]
        match j, hlt with
        | 0, _ => rfl
        | 1, _ => rfl
        | 2, _ => rfl
      have hc := (HR.out.belowAll (HD.out.below _)).cell h7
      have e7 : (((7 : UInt8).toNat : Nat) : Int) = 7 := rfl
      rw [e7] at hc
      clear h7 e7
      go_wp2_with fail
      go_roundg (3 - (j + 1))
      case measure => have := HJ.out; omega
      case rel => exact ⟨j + 1, by have := HJ.out; omega, by go_num, rfl⟩
    · obtain rfl : j = 3 := by have := HJ.out; omega
      go_wp2_with fail
      go_ret
      exact ⟨rfl, HD.out⟩
end Go.Proofs.Ytlcdabmclcfagaa
