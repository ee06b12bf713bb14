import Derived.Test.YtdagdjaefgadfaaMTake
set_option linter.unusedVariables false
set_option linter.unusedSimpArgs false
/- The document's reader: what it is. -/
namespace Go.Proofs.Ytdagdjaefgadfaa
open Go.RowKit

/-- The document's. -/
def RdR (w : World) (g : Nat) (h : Option Nat) (st : Option (List UInt8)) : Prop :=
  some g ≠ h ∧ ∃ l no A c, Blk w g 62 #[.slice A l.length c, .bool no] ∧ RV w A (bv l) ∧ l.length ≤ c ∧ c ≤ maxLen ∧ (∀ ad, A = some ad → some ad.block = h) ∧ st = if no then none else some l

section
variable {w w' : World} {g : Nat} {h : Option Nat} {st : Option (List UInt8)}
theorem RdR.lt (r : RdR w g h st) : g < w.heap.size := by obtain ⟨_, l, no, A, c, hb, _⟩ := r; exact hb.lt
theorem RdR.keep (r : RdR w g h st) (hk : ∀ k, k < w.heap.size → k = g ∨ some k = h → w'.heap[k]? = w.heap[k]?) : RdR w' g h st := by
  obtain ⟨hne, l, no, A, c, hb, hr, hlc, hc, hA, hst⟩ := r
  exact ⟨hne, l, no, A, c, hb.heap (hk g hb.lt (.inl rfl)), hr.keep fun ad e hn => hk _ (hr.lt e hn) (.inr (hA ad e)), hlc, hc, hA, hst⟩
theorem RdR.below (r : RdR w g h st) (hb : Below w.heap.size w w') : RdR w' g h st := r.keep fun k hk _ => hb.block k hk
theorem RdR.grown (r : RdR w g h st) {k : Nat} (hb : w.grownBy w' (some k)) (hg : k ≠ g) (hh : some k ≠ h) : RdR w' g h st :=
  r.keep fun i hi e => hb.block i hi (fun e' => by injection e' with e'; subst e'; exact e.elim hg hh)
end
end Go.Proofs.Ytdagdjaefgadfaa
