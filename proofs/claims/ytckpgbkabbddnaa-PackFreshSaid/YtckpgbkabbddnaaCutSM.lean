import Derived.Test.YtckpgbkabbddnaaCostM
import Derived.Test.YtckpgbkabbddnaaMPlain
set_option linter.unusedVariables false
set_option linter.unusedSimpArgs false
/- Layer 13, plain: where pages begin. -/
namespace Go.Proofs.Ytckpgbkabbddnaa
open Go.RowKit

def fOk (f : Fct) : Prop := mayK f.key ∧ 1 ≤ f.val.length ∧ f.val.length ≤ 255
instance (f : Fct) : Decidable (fOk f) := by unfold fOk; exact inferInstance
def goodL (l : List Fct) : Prop := (∀ f ∈ l, fOk f) ∧ ordB l = true
instance (l : List Fct) : Decidable (goodL l) := by unfold goodL; exact inferInstance
def stepOk (l : List Fct) (i : Nat) (f : Fct) : Prop := fOk f ∧ ∀ p, 0 < i → l[i - 1]? = some p → keyLt p.key f.key
theorem goodL_iff (l : List Fct) : goodL l ↔ ∀ i f, l[i]? = some f → stepOk l i f := by
  unfold goodL stepOk
  rw [ordB_iff]
  constructor
  · rintro ⟨h1, h2⟩ i f hf
    refine ⟨h1 f (List.mem_of_getElem? hf), fun p hi hp => ?_⟩
    exact h2 (i - 1) p f hp (by rw [show i - 1 + 1 = i by omega]; exact hf)
  · intro h
    refine ⟨fun f hf => ?_, fun i a b ha hb => ?_⟩
    · obtain ⟨i, hi⟩ := List.getElem?_of_mem hf
      exact (h i f hi).1
    · exact (h (i + 1) b hb).2 a (by omega) (by simpa using ha)
def longB (R : Nat) (l : List Fct) : Bool := l.any fun f => decide (R < costS f)
def cutsGo (R : Nat) : List Fct → Nat → Nat → Nat → List Nat
  | [], _, _, _ => []
  | f :: l, i, fr, us => if i = 0 ∨ R < us + costS f ∨ i - fr = 255 then i :: cutsGo R l (i + 1) i (costS f) else cutsGo R l (i + 1) fr (us + costS f)
def cutsS (s : Int) (l : List Fct) : List Nat × Nat :=
  if ¬ (128 ≤ s ∧ s ≤ 256) then ([], 2)
  else if ¬ goodL l then ([], 2)
  else if longB (s.toNat - 6) l = true then ([], 3)
  else (cutsGo (s.toNat - 6) l 0 0 0, 0)
theorem costS_zero {f : Fct} : costS f = 0 ↔ ¬ mayK f.key := by
  unfold costS
  split
  · constructor
    · omega
    · intro h; contradiction
  · simp [*]
theorem costS_le {f : Fct} (h : fOk f) : costS f ≤ 274 ∧ 3 ≤ costS f := by
  have h1 := keyB_le' h.1
  have h2 := h.2
  unfold costS
  rw [if_pos h.1]
  omega
end Go.Proofs.Ytckpgbkabbddnaa
