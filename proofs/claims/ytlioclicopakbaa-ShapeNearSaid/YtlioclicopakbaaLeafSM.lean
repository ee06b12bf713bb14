import Derived.Test.YtlioclicopakbaaMPlain
import Derived.Test.YtlioclicopakbaaMBase
set_option linter.unusedVariables false
set_option linter.unusedSimpArgs false
/- Layer 15, plain: leaves' bytes. -/
namespace Go.Proofs.Ytlioclicopakbaa
open Go.RowKit

def fitF (f : Fct) : Prop := mayK f.key ∧ 1 ≤ f.val.length ∧ f.val.length ≤ 255
instance (f : Fct) : Decidable (fitF f) := by unfold fitF; exact inferInstance
def fctB (f : Fct) : List UInt8 := keyB f.key ++ (UInt8.ofNat f.val.length :: f.val)
def leafB (l : List Fct) : List UInt8 := UInt8.ofNat l.length :: l.flatMap fctB
def leafOk (l : List Fct) : Prop := 1 ≤ l.length ∧ l.length ≤ 255 ∧ (∀ f ∈ l, fitF f) ∧ ordB l = true
instance (l : List Fct) : Decidable (leafOk l) := by unfold leafOk; exact inferInstance
def putLeafS (s : Int) (l : List Fct) : List UInt8 × Nat := if leafOk l then putPageS s 4 (leafB l) else ([], 2)
theorem fctB_le {f : Fct} (h : fitF f) : (fctB f).length ≤ 272 := by
  have h1 := (keyB_length h.1).2
  have h2 := h.2.2
  unfold fctB
  simp only [List.length_append, List.length_cons]
  omega
theorem flat_fct_le (l : List Fct) (h : ∀ f ∈ l, fitF f) : (l.flatMap fctB).length ≤ 272 * l.length := by
  induction l with
  | nil => simp
  | cons a l ih =>
    have h1 := fctB_le (h a (by simp))
    have h2 := ih fun c hc => h c (by simp [hc])
    simp only [List.flatMap_cons, List.length_append, List.length_cons]
    omega
theorem leafB_le {l : List Fct} (h : leafOk l) : (leafB l).length ≤ 70000 := by
  have := flat_fct_le l h.2.2.1
  have := h.2.1
  unfold leafB
  rw [List.length_cons]
  omega
end Go.Proofs.Ytlioclicopakbaa
