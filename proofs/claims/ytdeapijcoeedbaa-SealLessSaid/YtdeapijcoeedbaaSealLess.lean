/- SealLess: the walk. -/
import Derived.Test.YtdeapijcoeedbaaWorks02
import Derived.Test.YtdeapijcoeedbaaSealL
set_option linter.unusedVariables false
set_option linter.unusedSimpArgs false
namespace Go.Proofs.Ytdeapijcoeedbaa
open Go.RowKit

theorem lessS_irrefl (a : List UInt8) : decide (lessS a a) = false := decide_eq_false fun h => h.2 rfl
theorem Up.anti {a b : List UInt8} (h : Up a b) (k : Up b a) : a = b := by
  have h1 := h.noughts
  have h2 := k.noughts
  exact h2.2 (by omega)
theorem lessS_asymm {a b : List UInt8} (h : lessS a b) : decide (lessS b a) = false := decide_eq_false fun k => h.2 (k.1.anti h.1)
theorem lessS_trans {a b c : List UInt8} (h : lessS a b) (k : lessS b c) : decide (lessS a c) = true := decide_eq_true ⟨k.1.trans h.1, fun e => by
  subst e
  exact k.2 (h.1.anti k.1)⟩
theorem lessS_noughts {a b : List UInt8} (h : lessS a b) : (noughts a : Int) < (noughts b : Int) := by
  have h1 := h.1.noughts
  have h2 : noughts a ≠ noughts b := fun e => h.2 (h1.2 e)
  omega

set_option maxRecDepth 100000 in
set_option maxHeartbeats 1000000 in
theorem walkSealLess (w : World) (A : Option Addr) (ca : Nat) (a : List UInt8) (ha : RV w A (bv a)) (hA : a.length ≤ 140737488351232) (B : Option Addr) (cb : Nat) (b : List UInt8) (hb : RV w B (bv b)) (hB : b.length ≤ 140737488351232)
    (C : Option Addr) (cc : Nat) (c : List UInt8) (hc : RV w C (bv c)) (hC : c.length ≤ 140737488351232) :
    Calls Try.prog 9 #[.slice A a.length ca, .slice B b.length cb, .slice C c.length cc] w fun e w' => e = .returned (.bool true) ∧ Below w.heap.size w w' := by
  have na := noughts_le a
  have nb := noughts_le b
  have la : a.length ≤ maxLen := by unfold maxLen; omega
  have lb : b.length ≤ maxLen := by unfold maxLen; omega
  have lc : c.length ≤ maxLen := by unfold maxLen; omega
  have h1 := less_any A ca a A ca a w ha ha la la
  rw [lessS_irrefl] at h1
  have h2 := less_any A ca a B cb b w ha hb la lb
  have h3 := less_any B cb b A ca a w hb ha lb la
  have h4 := less_any B cb b C cc c w hb hc lb lc
  have h5 := less_any A ca a C cc c w ha hc la lc
  have n1 := noughts_any A ca a w ha (by omega)
  have n2 := noughts_any B cb b w hb (by omega)
  clear na nb
  generalize a.length = na at *
  generalize b.length = nb at *
  generalize c.length = nc at *
  by_cases hab : lessS a b
  · rw [decide_eq_true hab] at h2
    rw [lessS_asymm hab] at h3
    have hn := lessS_noughts hab
    have hac : lessS b c → decide (lessS a c) = true := lessS_trans hab
    generalize decide (lessS a c) = ac at *
    by_cases hbc : lessS b c
    · rw [hac hbc] at h5
      rw [decide_eq_true hbc] at h4
      generalize noughts a = x at *
      generalize noughts b = y at *
      have HH := Lib.hid (And.intro h1 (And.intro h2 (And.intro h3 (And.intro h4 (And.intro h5 (And.intro n1 n2))))))
      clear h1 h2 h3 h4 h5 n1 n2 ha hb hc hac hbc hab la lb lc
      go_enter Try.func9, Try.ntmps9
      go_wp2_with (first
        | (go_at_call 24; first
          | (with_reducible refine HH.out.1.mono ?_; rintro e w' ⟨rfl, rfl⟩)
          | (with_reducible refine HH.out.2.1.mono ?_; rintro e w' ⟨rfl, rfl⟩)
          | (with_reducible refine HH.out.2.2.1.mono ?_; rintro e w' ⟨rfl, rfl⟩)
          | (with_reducible refine HH.out.2.2.2.1.mono ?_; rintro e w' ⟨rfl, rfl⟩)
          | (with_reducible refine HH.out.2.2.2.2.1.mono ?_; rintro e w' ⟨rfl, rfl⟩))
        | (go_at_call 20; first
          | (with_reducible refine HH.out.2.2.2.2.2.1.mono ?_; rintro e w' ⟨rfl, rfl⟩)
          | (with_reducible refine HH.out.2.2.2.2.2.2.mono ?_; rintro e w' ⟨rfl, rfl⟩))
        | (go_at_call 16; refine (works_any _).mono ?_; rintro e w7 ⟨rfl, hb7⟩; have H7 := Lib.hid hb7; clear hb7))
      go_ret
      exact ⟨rfl, H7.out⟩
    · rw [decide_eq_false hbc] at h4
      generalize noughts a = x at *
      generalize noughts b = y at *
      have HH := Lib.hid (And.intro h1 (And.intro h2 (And.intro h3 (And.intro h4 (And.intro h5 (And.intro n1 n2))))))
      clear h1 h2 h3 h4 h5 n1 n2 ha hb hc hac hbc hab la lb lc
      go_enter Try.func9, Try.ntmps9
      go_wp2_with (first
        | (go_at_call 24; first
          | (with_reducible refine HH.out.1.mono ?_; rintro e w' ⟨rfl, rfl⟩)
          | (with_reducible refine HH.out.2.1.mono ?_; rintro e w' ⟨rfl, rfl⟩)
          | (with_reducible refine HH.out.2.2.1.mono ?_; rintro e w' ⟨rfl, rfl⟩)
          | (with_reducible refine HH.out.2.2.2.1.mono ?_; rintro e w' ⟨rfl, rfl⟩)
          | (with_reducible refine HH.out.2.2.2.2.1.mono ?_; rintro e w' ⟨rfl, rfl⟩))
        | (go_at_call 20; first
          | (with_reducible refine HH.out.2.2.2.2.2.1.mono ?_; rintro e w' ⟨rfl, rfl⟩)
          | (with_reducible refine HH.out.2.2.2.2.2.2.mono ?_; rintro e w' ⟨rfl, rfl⟩))
        | (go_at_call 16; refine (works_any _).mono ?_; rintro e w7 ⟨rfl, hb7⟩; have H7 := Lib.hid hb7; clear hb7))
      go_ret
      exact ⟨rfl, H7.out⟩
  · rw [decide_eq_false hab] at h2
    generalize noughts a = x at *
    generalize noughts b = y at *
    have HH := Lib.hid (And.intro h1 (And.intro h2 (And.intro h3 (And.intro h4 (And.intro h5 (And.intro n1 n2))))))
    clear h1 h2 h3 h4 h5 n1 n2 ha hb hc hab la lb lc
    go_enter Try.func9, Try.ntmps9
    go_wp2_with (first
      | (go_at_call 24; first
        | (with_reducible refine HH.out.1.mono ?_; rintro e w' ⟨rfl, rfl⟩)
        | (with_reducible refine HH.out.2.1.mono ?_; rintro e w' ⟨rfl, rfl⟩)
        | (with_reducible refine HH.out.2.2.1.mono ?_; rintro e w' ⟨rfl, rfl⟩)
        | (with_reducible refine HH.out.2.2.2.1.mono ?_; rintro e w' ⟨rfl, rfl⟩)
        | (with_reducible refine HH.out.2.2.2.2.1.mono ?_; rintro e w' ⟨rfl, rfl⟩))
      | (go_at_call 20; first
        | (with_reducible refine HH.out.2.2.2.2.2.1.mono ?_; rintro e w' ⟨rfl, rfl⟩)
        | (with_reducible refine HH.out.2.2.2.2.2.2.mono ?_; rintro e w' ⟨rfl, rfl⟩))
      | (go_at_call 16; refine (works_any _).mono ?_; rintro e w7 ⟨rfl, hb7⟩; have H7 := Lib.hid hb7; clear hb7))
    go_ret
    exact ⟨rfl, H7.out⟩
end Go.Proofs.Ytdeapijcoeedbaa
