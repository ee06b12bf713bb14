/- The program's reader: Left. -/
import Derived.Test.YtakjjfohjodepaaNew
set_option linter.unusedVariables false
set_option linter.unusedSimpArgs false
namespace Go.Proofs.Ytakjjfohjodepaa
open Go.RowKit

theorem left_any {w : World} {g : Nat} {h : Option Nat} {st : Option (List UInt8)} (r : Rd w g h st) :
    Calls Try.prog 21 #[.pointer (some ⟨g, 0, none⟩)] w fun e w' => e = .returned (.int .i64 (leftS st : Nat)) ∧ w = w' := by
  have R := Lib.hid r
  obtain ⟨hne, l, no, A, c, hb, hr, hlc, hc, hA, hst⟩ := r
  have c1 := hb.cell 1
  have c2 := hb.cell 2
  simp at c1 c2
  have HST := Lib.hid hst
  clear hb hr hlc hc hA hst
  cases no
  all_goals
    go_enter Try.func21, Try.ntmps21
    go_wp2_with (go_at_call 31; refine (off_no R.out).mono ?_; rintro e w' ⟨rfl, rfl⟩)
    go_ret
    exact ⟨by rw [HST.out]; rfl, rfl⟩
end Go.Proofs.Ytakjjfohjodepaa
