import Derived.Test.YtegoeagmadhpgaaMPlain
import Derived.Test.YtegoeagmadhpgaaMBase
import Derived.Test.YtegoeagmadhpgaaLensM
set_option linter.unusedVariables false
set_option linter.unusedSimpArgs false
/- Layer 15: pages that are put, what they say; plain. -/
namespace Go.Proofs.Ytegoeagmadhpgaa
open Go.RowKit

theorem putPage_said {s : Int} {k : UInt8} {b p : List UInt8} (h : putPageS s k b = (p, 0)) : getS p = (k.toNat, b, 0) ∧ 128 ≤ p.length ∧ p.length ≤ 256 ∧ b.length ≤ 251 := by
  obtain ⟨h1, h2, h3, h4, h5, h6⟩ := putPageS_ok (s := s) (kind := k) (body := b) (by rw [h])
  rw [h] at h6
  have hp : p = pageS s.toNat k b := (Prod.mk.inj h6).1
  have hs : isPage s.toNat := by unfold isPage; omega
  have hl := pageS_length (kind := k) hs h5
  rw [hp]
  exact ⟨getS_page hs h3 h4 h5, by omega, by omega, by omega⟩
theorem putLeaf_said {s : Int} {l : List Fct} {p : List UInt8} (h : putLeafS s l = (p, 0)) : leafOk l ∧ getS p = (4, leafB l, 0) ∧ 128 ≤ p.length ∧ p.length ≤ 256 ∧ (leafB l).length ≤ 251 := by
  unfold putLeafS at h
  split at h
  · rename_i hb
    obtain ⟨h1, h2, h3, h4⟩ := putPage_said h
    exact ⟨hb, h1, h2, h3, h4⟩
  · simp at h
theorem putLeaf_256 {l : List Fct} (h : leafOk l) (hl : (leafB l).length ≤ 251) : ∃ p, putLeafS 256 l = (p, 0) := by
  unfold putLeafS
  rw [if_pos h]
  have := putPageS_mk (s := 256) (kind := 4) (body := leafB l) (by unfold isPage; omega) (by decide) (by decide) (by omega)
  exact ⟨_, this⟩
theorem putLeafS_code' (s : Int) (l : List Fct) : (putLeafS s l).2 ≤ 3 := by
  unfold putLeafS
  split
  · exact putPageS_code _ _ _
  · simp
theorem lenS_fct {f : Fct} (h : fitF f) : lenS f = (fctB f).length := by
  unfold lenS fctB
  rw [if_pos h.1, List.length_append, List.length_cons]
  omega
theorem leafB_sum (l : List Fct) (h : ∀ f ∈ l, fitF f) : (leafB l).length = 1 + (l.map lenS).sum := by
  unfold leafB
  rw [List.length_cons, Nat.add_comm]
  congr 1
  induction l with
  | nil => rfl
  | cons a l ih =>
    rw [List.flatMap_cons, List.length_append, List.map_cons, List.sum_cons, lenS_fct (h a (by simp)), ih fun f hf => h f (by simp [hf])]
theorem wrap_add (a b : Int) : IntKind.i64.wrap (IntKind.i64.wrap a + b) = IntKind.i64.wrap (a + b) := by
  rw [IntKind.wrap_i64, IntKind.wrap_i64, IntKind.wrap_i64]
  omega
theorem wrap_bd (a : Int) : -9223372036854775808 ≤ IntKind.i64.wrap a ∧ IntKind.i64.wrap a ≤ 9223372036854775807 := by
  rw [IntKind.wrap_i64]
  omega
end Go.Proofs.Ytegoeagmadhpgaa
