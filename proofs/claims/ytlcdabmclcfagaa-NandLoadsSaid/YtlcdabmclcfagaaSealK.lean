/- Layer 2: contract of seal.Blank. -/
import Derived.Test.YtlcdabmclcfagaaProg
import Derived.Test.YtlcdabmclcfagaaSealS
import Derived.Test.YtlcdabmclcfagaaMem
set_option linter.unusedVariables false
set_option linter.unusedSimpArgs false
namespace Go.Proofs.Ytlcdabmclcfagaa
open Go.RowKit

theorem blank_take {l : List UInt8} {j : Nat} (h : j < l.length) (hb : blankS (l.take j)) (he : l[j] = 255) : blankS (l.take (j + 1)) := by
  rw [List.take_add_one, List.getElem?_eq_getElem h]
  intro x hx
  rcases List.mem_append.1 hx with hx | hx
  · exact hb x hx
  · simp at hx
    rw [hx, he]

set_option maxHeartbeats 400000 in
theorem blank_any (A : Option Addr) (c : Nat) (xs : List UInt8) (w : World) (hr : RV w A (bv xs)) (hx : xs.length ≤ maxLen) :
    Calls Try.prog 36 #[.slice A xs.length c] w fun e w' => e = .returned (.bool (decide (blankS xs))) ∧ w = w' := by
  unfold maxLen at hx
  have HR := Lib.hid hr
  clear hr
  go_enter Try.func36, Try.ntmps36
  go_wp2_with fail
  go_loopg [7] xs.length (fun k i wr => ∃ j : Nat, j + k = xs.length ∧ i = .int .i64 j ∧ wr = w ∧ blankS (xs.take j))
  case atStart => exact ⟨0, by omega, rfl, rfl, fun x hx => by cases hx⟩
  case round =>
    obtain ⟨j, hj, rfl, rfl, hb⟩ := hrel
    have HJ := Lib.hid (And.intro hj hb)
    clear hj hb
    by_cases hlt : j < xs.length
    · obtain ⟨ad, rfl, hcell⟩ := HR.out.at_ (k := j) (by rw [bv_length]; omega)
      have hbj : (bv xs)[j]'(by rw [bv_length]; omega) = .int .u8 (xs[j].toNat : Int) := by simp [bv]
      rw [hbj] at hcell
      by_cases he : xs[j] = 255
      · have hn := blank_take hlt HJ.out.2 he
        have h255 : ((xs[j].toNat : Int) != 255) = false := by rw [he]; rfl
        generalize xs[j].toNat = x at hcell h255
        have HN := Lib.hid hn
        clear hn hbj he
        go_wp2_with fail
        go_roundg (xs.length - (j + 1))
        case measure => have := HJ.out.1; omega
        case rel => exact ⟨j + 1, by have := HJ.out.1; omega, by go_num, rfl, HN.out⟩
      · have hn : ¬ blankS xs := fun h => he (h _ (List.getElem_mem hlt))
        have h255 : ((xs[j].toNat : Int) != 255) = true := by
          have : xs[j].toNat ≠ 255 := fun h => he (UInt8.toNat.inj h)
          simp
          omega
        generalize xs[j].toNat = x at hcell h255
        have HN := Lib.hid hn
        clear hn hbj he
        go_wp2_with fail
        go_ret
        exact ⟨ret_bool (decide_eq_false HN.out).symm, rfl⟩
    · have hjx : j = xs.length := by have := HJ.out.1; omega
      have hfin : blankS xs := by have := HJ.out.2; rwa [hjx, List.take_length] at this
      have HF := Lib.hid hfin
      clear hfin hjx
      go_wp2_with fail
      go_ret
      exact ⟨ret_bool (decide_eq_true HF.out).symm, rfl⟩

theorem blank_at (A : Option Addr) (n c : Nat) (xs : List UInt8) (w : World) (hn : xs.length = n) (hr : RV w A (bv xs)) (hx : n ≤ maxLen) :
    Calls Try.prog 36 #[.slice A n c] w fun e w' => e = .returned (.bool (decide (blankS xs))) ∧ w = w' := by
  subst hn
  exact blank_any A c xs w hr hx
end Go.Proofs.Ytlcdabmclcfagaa
