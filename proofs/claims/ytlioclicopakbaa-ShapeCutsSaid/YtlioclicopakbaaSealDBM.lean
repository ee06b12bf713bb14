import Derived.Test.YtlioclicopakbaaSealDNM
set_option linter.unusedVariables false
set_option linter.unusedSimpArgs false
/- Layer 2: the document's Body. -/
namespace Go.Proofs.Ytlioclicopakbaa
open Go.RowKit

theorem dBody_any (n : Int) (w : World) : Calls Try.prog 47 #[.int .i64 n] w fun e w' => e = .returned (.int .i64 (bodyS n : Nat)) ∧ w = w' := by
  by_cases h : 128 ≤ n ∧ n ≤ 256
  · have hb : bodyS n = n.toNat - 5 := by unfold bodyS; rw [if_pos h]
    have he : (n - 5 : Int) = ((n.toNat - 5 : Nat) : Int) := by omega
    have HB := Lib.hid (And.intro hb he)
    clear hb he
    obtain ⟨h1, h2⟩ := h
    go_enter Try.func47, Try.ntmps47
    go_wp2_with (go_at_call 45; refine (dSize_yes _ _ h1 h2).mono ?_; rintro e w' ⟨rfl, rfl⟩)
    go_ret
    exact ⟨ret_int (by rw [HB.out.1]; exact HB.out.2), rfl⟩
  · have hb : bodyS n = 0 := by unfold bodyS; rw [if_neg h]
    have HB := Lib.hid hb
    have H := Lib.hid h
    clear hb h
    go_enter Try.func47, Try.ntmps47
    go_wp2_with (go_at_call 45; refine (dSize_no _ _ H.out).mono ?_; rintro e w' ⟨rfl, rfl⟩)
    go_ret
    exact ⟨by rw [HB.out]; rfl, rfl⟩

end Go.Proofs.Ytlioclicopakbaa
