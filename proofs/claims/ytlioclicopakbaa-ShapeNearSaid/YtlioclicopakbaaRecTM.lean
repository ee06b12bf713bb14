import Derived.Test.YtlioclicopakbaaMBase
set_option linter.unusedVariables false
set_option linter.unusedSimpArgs false
/- Changes, plain: their bytes. -/
namespace Go.Proofs.Ytlioclicopakbaa
open Go.RowKit

/-- A change: a key, its value, or that it is gone. -/
structure Chg where
  key : Ky
  val : List UInt8
  gone : Bool
def valOk (c : Chg) : Prop := if c.gone = true then c.val.length = 0 else 1 ≤ c.val.length ∧ c.val.length ≤ 255
instance (c : Chg) : Decidable (valOk c) := by unfold valOk; exact inferInstance
def chgOk (c : Chg) : Prop := mayK c.key ∧ valOk c
instance (c : Chg) : Decidable (chgOk c) := by unfold chgOk; exact inferInstance
def chgB (c : Chg) : List UInt8 := if c.gone = true then 0 :: keyB c.key else 1 :: (keyB c.key ++ (UInt8.ofNat c.val.length :: c.val))
def changeS (c : Chg) : List UInt8 × Bool := if chgOk c then (chgB c, true) else ([], false)
/-- A page's body of changes. -/
def bodyB (l : List Chg) : List UInt8 := UInt8.ofNat l.length :: l.flatMap chgB
def bodyOk (l : List Chg) : Prop := 1 ≤ l.length ∧ l.length ≤ 255 ∧ ∀ c ∈ l, chgOk c
instance (l : List Chg) : Decidable (bodyOk l) := by unfold bodyOk; exact inferInstance
theorem chgB_length {c : Chg} (h : chgOk c) : (chgB c).length ≤ 273 := by
  have h1 := keyB_length h.1
  unfold chgB
  have h2 := h.2
  unfold valOk at h2
  split
  · simp only [List.length_cons]; omega
  · rename_i hg
    rw [if_neg hg] at h2
    simp only [List.length_cons, List.length_append]
    omega

end Go.Proofs.Ytlioclicopakbaa
