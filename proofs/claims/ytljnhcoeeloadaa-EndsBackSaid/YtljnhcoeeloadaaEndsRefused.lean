/- EndsRefused: the walk. -/
import Derived.Test.YtljnhcoeeloadaaWorks01
import Derived.Test.YtljnhcoeeloadaaPutAny
set_option linter.unusedVariables false
set_option linter.unusedSimpArgs false
namespace Go.Proofs.Ytljnhcoeeloadaa
open Go.RowKit

theorem isSz8 : IsSz ((8 : Nat) : Int) := .inr (.inr (.inr rfl))
theorem u8_nat {x : Int} (h : (Lit.int .u8 x).wf = true) : ∃ n : Nat, x = n ∧ n < 256 := by
  simp [Lit.wf, IntKind.min, IntKind.max, IntKind.signed, IntKind.bits] at h
  exact ⟨x.toNat, by omega, by omega⟩

theorem pow_sz (n : Nat) : ∃ m : Nat, IsSz (m : Int) ∧ wrap64 ((2 : Int) ^ (n % 4)) = (m : Int) := by
  have h : n % 4 = 0 ∨ n % 4 = 1 ∨ n % 4 = 2 ∨ n % 4 = 3 := by omega
  rcases h with h | h | h | h <;> rw [h]
  · exact ⟨1, .inl rfl, by unfold wrap64; omega⟩
  · exact ⟨2, .inr (.inl rfl), by unfold wrap64; omega⟩
  · exact ⟨4, .inr (.inr (.inl rfl)), by unfold wrap64; omega⟩
  · exact ⟨8, .inr (.inr (.inr rfl)), by unfold wrap64; omega⟩

set_option maxRecDepth 100000 in
set_option maxHeartbeats 2000000 in
theorem walkEndsRefused (w : World) (A : Option Addr) (c : Nat) (xs : List UInt8) (hr : RV w A (bv xs)) (hR : xs.length ≤ 140737488351232) (x1 : Int) (w1 : (Lit.int .u8 x1).wf = true) :
    Calls Try.prog 4 #[.slice A xs.length c, .int .u8 x1] w fun e w' => e = .returned (.bool true) ∧ Below w.heap.size w w' := by
  obtain ⟨sz, rfl, hsz⟩ := u8_nat w1
  have HR := Lib.hid (And.intro hr (show xs.length ≤ 140737488355328 by omega))
  clear hr w1
  go_enter Try.func4, Try.ntmps4
  go_wp2_with fail
  refine (new_any w A c xs HR.out.1 HR.out.2).mono ?_
  rintro e w1 ⟨g, h, rfl, hrd, hb1, hg, hgs, hh⟩
  have H1 := Lib.hid (And.intro hrd hb1)
  have HG := Lib.hid hg
  clear hrd hb1 hh hgs hg
  go_wp2_with fail
  go_loopg [6] (xs.length + 1) (fun k i wr => ∃ (j : Nat) (l : List UInt8), j + k = xs.length + 1 ∧ i = .int .i64 j ∧ Rd wr g h (some l) ∧ l.length + 8 * j = xs.length ∧ Below w.heap.size w wr)
  case atStart => exact ⟨0, xs, by omega, rfl, H1.out.1, by omega, H1.out.2⟩
  case round =>
    obtain ⟨j, l, hj, rfl, hrd, hl, hb⟩ := hrel
    have HX := Lib.hid (And.intro hj (And.intro hrd (And.intro hl hb)))
    have hle : (j : Int) ≤ xs.length := by omega
    have hll : l.length ≤ 140737488351232 := by omega
    clear hj hrd hl hb
    go_wp2_with fail
    refine (left_any HX.out.2.1).mono ?_
    rintro e w2 ⟨rfl, rfl⟩
    simp only [leftS]
    go_wp2_with fail
    by_cases h8 : l.length < 8
    · refine (take_no (s := 8) HX.out.2.1 isSz8 (fun l' e => by injection e with e; subst e; exact h8)).mono ?_
      rintro e w3 ⟨rfl, hrd3, hg3⟩
      have e3 : takeS (some l) 8 = (0, 4, none) := by simp [takeS, h8]
      rw [e3] at hrd3 ⊢
      have Y := Lib.hid (And.intro hrd3 (below_grown HX.out.2.2.2 hg3 HX.out.2.2.2.size HG.out))
      clear hrd3 hg3 e3
      go_wp2_with fail
      obtain ⟨m, hm, em⟩ := pow_sz sz
      rw [em]
      have HM := Lib.hid hm
      clear em hm
      refine (take_any (s := m) Y.out.1 HM.out).mono ?_
      rintro e w4 ⟨rfl, hrd4, hg4⟩
      have e4 : takeS none m = (0, 4, none) := rfl
      rw [e4] at hrd4 ⊢
      have Z := Lib.hid (And.intro hrd4 (below_grown Y.out.2 hg4 Y.out.2.size HG.out))
      clear hrd4 hg4 e4
      go_wp2_with fail
      refine (row_any Z.out.1).mono ?_
      rintro e w5 ⟨v5, rfl, ho5, hrd5, hg5⟩
      have e5 : rowS none = ([], 4, none) := rfl
      rw [e5] at hrd5 ⊢
      have Z5 := Lib.hid (And.intro hrd5 (below_grown Z.out.2 hg5 Z.out.2.size HG.out))
      clear hrd5 hg5 e5 ho5
      go_wp2_with (first
        | (go_at_call 14; refine (left_any Z5.out.1).mono ?_; rintro e w6 ⟨rfl, rfl⟩; simp only [leftS])
        | (go_at_call 18; refine (works_any _).mono ?_; rintro e w7 ⟨rfl, hb7⟩; have H7 := Lib.hid hb7; clear hb7))
      go_ret
      exact ⟨rfl, below_then Z5.out.2 Z5.out.2.size H7.out⟩
    · refine (take_ok (s := 8) HX.out.2.1 isSz8 (by omega)).mono ?_
      rintro e w3 ⟨rfl, hrd3, hg3⟩
      have e3 : takeS (some l) 8 = (leval (l.take 8), 0, some (l.drop 8)) := by simp [takeS, h8]
      rw [e3] at hrd3 ⊢
      have Y := Lib.hid (And.intro hrd3 (below_grown HX.out.2.2.2 hg3 HX.out.2.2.2.size HG.out))
      clear hrd3 hg3 e3
      go_wp2_with fail
      have hj' := HX.out.1
      have hl' := HX.out.2.2.1
      go_roundg (xs.length - j)
      case measure => omega
      case rel => exact ⟨j + 1, l.drop 8, by omega, by go_num, Y.out.1, by rw [List.length_drop]; omega, Y.out.2⟩
end Go.Proofs.Ytljnhcoeeloadaa
