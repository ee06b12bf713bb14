import Derived.Test.YtegoeagmadhpgaaMU
import Derived.Test.YtegoeagmadhpgaaLeafKM
set_option linter.unusedVariables false
set_option linter.unusedSimpArgs false
/- Layer 15: inner nodes' pages, what they say; plain. -/
namespace Go.Proofs.Ytegoeagmadhpgaa
open Go.RowKit

theorem putInner_said {s : Int} {l : List Chd} {p : List UInt8} (h : putInnerS s l = (p, 0)) : innOk l ∧ getS p = (5, innB l, 0) ∧ 128 ≤ p.length ∧ p.length ≤ 256 ∧ (innB l).length ≤ 251 := by
  unfold putInnerS at h
  split at h
  · rename_i hb
    obtain ⟨h1, h2, h3, h4⟩ := putPage_said h
    exact ⟨hb, h1, h2, h3, h4⟩
  · simp at h
theorem putInner_256 {l : List Chd} (h : innOk l) (hl : (innB l).length ≤ 251) : ∃ p, putInnerS 256 l = (p, 0) := by
  unfold putInnerS
  rw [if_pos h]
  have := putPageS_mk (s := 256) (kind := 5) (body := innB l) (by unfold isPage; omega) (by decide) (by decide) (by omega)
  exact ⟨_, this⟩
theorem putInnerS_code (s : Int) (l : List Chd) : (putInnerS s l).2 ≤ 3 := by
  unfold putInnerS
  split
  · exact putPageS_code _ _ _
  · simp
theorem lsS_code {α : Type} {one : Option (List UInt8) → α × Nat × Option (List UInt8)} {key : α → Ky} (ho : ∀ st, (one st).2.1 ≤ 5) (xs : List UInt8) : (lsS one key xs).2 ≤ 5 := by
  have hg : ∀ (k : Nat) (p : Option Ky) (st : Option (List UInt8)), (lsGo one key k p st).2.1 ≤ 5 := by
    intro k
    induction k with
    | zero => intro p st; exact Nat.zero_le _
    | succ k ih =>
      intro p st
      rw [lsGo]
      split
      · exact ho st
      · split
        · exact Nat.le_refl _
        · split
          · exact ih _ _
          · exact Nat.zero_le _
  unfold lsS
  split
  · show 4 ≤ 5; decide
  · split
    · exact Nat.le_refl _
    · split
      · exact hg _ _ _
      · split
        · exact Nat.le_refl _
        · exact Nat.zero_le _
end Go.Proofs.Ytegoeagmadhpgaa
