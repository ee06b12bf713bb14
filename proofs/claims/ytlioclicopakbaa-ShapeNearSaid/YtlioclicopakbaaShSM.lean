import Derived.Test.YtlioclicopakbaaEndKM
import Derived.Test.YtlioclicopakbaaMPlain
import Derived.Test.YtlioclicopakbaaLensM
set_option linter.unusedVariables false
set_option linter.unusedSimpArgs false
/- Layer 16, plain: things cut into nodes. -/
namespace Go.Proofs.Ytlioclicopakbaa
open Go.RowKit

def kStep (l : List Ky) (i : Nat) (k : Ky) : Prop := mayK k ∧ ∀ p, 0 < i → l[i - 1]? = some p → keyLt p k
def goodKs (l : List Ky) : Prop := (∀ k ∈ l, mayK k) ∧ ordB (l.map fun k => ⟨k, []⟩) = true
instance (l : List Ky) : Decidable (goodKs l) := by unfold goodKs; exact inferInstance
theorem goodKs_iff (l : List Ky) : goodKs l ↔ ∀ i k, l[i]? = some k → kStep l i k := by
  unfold goodKs kStep
  rw [ordB_iff]
  constructor
  · rintro ⟨h1, h2⟩ i f hf
    refine ⟨h1 f (List.mem_of_getElem? hf), fun p hi hp => ?_⟩
    have := h2 (i - 1) ⟨p, []⟩ ⟨f, []⟩ (by rw [List.getElem?_map, hp]; rfl) (by rw [show i - 1 + 1 = i by omega, List.getElem?_map, hf]; rfl)
    exact this
  · intro h
    refine ⟨fun f hf => ?_, fun i a b ha hb => ?_⟩
    · obtain ⟨i, hi⟩ := List.getElem?_of_mem hf
      exact (h i f hi).1
    · rw [List.getElem?_map] at ha hb
      obtain ⟨a', ha', rfl⟩ := Option.map_eq_some_iff.1 ha
      obtain ⟨b', hb', rfl⟩ := Option.map_eq_some_iff.1 hb
      exact (h (i + 1) b' hb').2 a' (by omega) (by simpa using ha')
def shGo (R least : Nat) : List (Ky × Nat) → Nat → Nat → Option (List Nat)
  | [], many, _ => some (if 0 < many then [many] else [])
  | (k, n) :: r, many, left =>
    if R < n then none
    else if left < n ∨ many = 255 then
      if least ≤ 1 ∧ endS k = true then (shGo R least r 0 R).map (fun t => many :: 1 :: t) else (shGo R least r 1 (R - n)).map (many :: ·)
    else
      if least ≤ many + 1 ∧ endS k = true then (shGo R least r 0 R).map ((many + 1) :: ·) else shGo R least r (many + 1) (left - n)
def shCut (s : Int) (its : List (Ky × Nat)) (least : Nat) : List Nat × Nat :=
  if ¬ (128 ≤ s ∧ s ≤ 256) then ([], 2)
  else if ¬ goodKs (its.map (·.1)) then ([], 2)
  else match shGo (s.toNat - 6) least its 0 (s.toNat - 6) with
    | none => ([], 3)
    | some t => (t, 0)
end Go.Proofs.Ytlioclicopakbaa
