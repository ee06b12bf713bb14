/- Facts in a row; a change that is done; plain. -/
import Derived.Test.YtlioclicopakbaaElts
import Derived.Test.YtlioclicopakbaaKeyL
set_option linter.unusedVariables false
set_option linter.unusedSimpArgs false
namespace Go.Proofs.Ytlioclicopakbaa
open Go.RowKit

/-- Facts in order. -/
def ordB : List Fct → Bool
  | a :: b :: r => decide (keyLt a.key b.key) && ordB (b :: r)
  | _ => true
theorem ordB_iff : ∀ l : List Fct, ordB l = true ↔ ∀ i a b, l[i]? = some a → l[i + 1]? = some b → keyLt a.key b.key
  | [] => ⟨fun _ i a b h => by simp at h, fun _ => rfl⟩
  | [x] => ⟨fun _ i a b h h' => by simp at h', fun _ => rfl⟩
  | x :: y :: r => by
    have ih := ordB_iff (y :: r)
    simp only [ordB, Bool.and_eq_true, decide_eq_true_eq, ih]
    constructor
    · rintro ⟨h1, h2⟩ i a b ha hb
      cases i with
      | zero => simp at ha hb; rw [← ha, ← hb]; exact h1
      | succ i => exact h2 i a b (by simpa using ha) (by simpa using hb)
    · intro h
      exact ⟨h 0 x y rfl rfl, fun i a b ha hb => h (i + 1) a b (by simpa using ha) (by simpa using hb)⟩
/-- One change, done to facts. -/
def oneGo (c : Fct) : List Fct → Bool → List Fct
  | [], done => if done = true then [] else [c]
  | f :: r, done =>
    if f.key = c.key then (if done = true then [] else [c]) ++ oneGo c r true
    else if done = false ∧ keyLt c.key f.key then c :: f :: oneGo c r true
    else f :: oneGo c r done
def oneF (l : List Fct) (c : Chg) : List Fct := oneGo ⟨c.key, c.val⟩ l c.gone
def applyF (l : List Fct) (cs : List Chg) : List Fct := if ordB l = true then cs.foldl oneF l else []
/-- A change of a key behind all. -/
theorem oneGo_last (c : Fct) : ∀ l : List Fct, (∀ f ∈ l, keyLt f.key c.key) → oneGo c l false = l ++ [c]
  | [], _ => rfl
  | f :: r, h => by
    have h1 := h f (by simp)
    have ih := oneGo_last c r fun g hg => h g (by simp [hg])
    rw [oneGo, if_neg (keyLt_ne h1), if_neg (fun hh => keyLt_asymm h1 hh.2), ih]
    rfl
theorem oneGo_len (c : Fct) : ∀ (l : List Fct) (d : Bool), (oneGo c l d).length ≤ l.length + 1
  | [], d => by unfold oneGo; split <;> simp
  | f :: r, d => by
    have i1 := oneGo_len c r true
    have i2 := oneGo_len c r d
    have i3 : ∀ r : List Fct, (oneGo c r true).length ≤ r.length := by
      intro r
      induction r with
      | nil => simp [oneGo]
      | cons g r ih =>
        unfold oneGo
        split
        · simp; omega
        · rw [if_neg (by simp)]; simp; omega
    have i4 := i3 r
    unfold oneGo
    split
    · split
      · simp; omega
      · simp; omega
    · split
      · simp; omega
      · simp; omega
end Go.Proofs.Ytlioclicopakbaa
