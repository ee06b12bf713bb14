import Derived.Laws.Rows
import Derived.Laws.ResultCell
import Derived.Test.YtlcdabmclcfagaaMBase
set_option linter.unusedVariables false
set_option linter.unusedSimpArgs false
/- A result that lies in a variable, and one more; a variable of four cells that is written whole. -/
namespace Go.Proofs.Ytlcdabmclcfagaa
open Go.RowKit

theorem post_cell2 {P : Program} {fn : Func} {p u : Tmp} {ty : TypeId} (h : fn.results = #[.cell p ty, .tmp u]) {d : TypeDesc} (hu : P.underlying ty = some d) (hd : (match d with | .struct _ | .array _ _ => true | _ => false) = true)
    {Q : Ending → World → Prop} {tmps : Array Value} {w : World} {g : Nat} {t : TypeId} (cs : Array Value) (hp : tmps.getD p undef = .pointer (some ⟨g, 0, none⟩)) (hg : w.heap[g]? = some (.cells cs t (0, 0)))
    (hi : (P.info? ty).map (·.size) = some cs.size) (hQ : Q (.returned (.tuple #[.agg cs, tmps.getD u undef])) w) : bodyPost P fn Q .ret { tmps := tmps, defers := [] } w := by
  refine bodyPost_ret (v := .tuple #[.agg cs, tmps.getD u undef]) ?_ rfl hQ
  rw [results_cell_tmp h, hp]
  simp [asAddr, run_loadVar_row w g t ty cs (0, 0) d hg hu hd hi]
theorem Blk.set4 {w : World} {g : Nat} {t : TypeId} {a b c d : Value} (h : Blk w g t #[a, b, c, d]) (a' b' c' d' : Value) :
    Blk ((((w.setCell ⟨g, 0, none⟩ a').setCell ⟨g, 1, none⟩ b').setCell ⟨g, 2, none⟩ c').setCell ⟨g, 3, none⟩ d') g t #[a', b', c', d'] := by
  have := (((h.set_ 0 a').set_ 1 b').set_ 2 c').set_ 3 d'
  simpa using this
theorem below_set4 {B : Nat} {w0 w : World} (h : Below B w0 w) {g : Nat} (hg : B ≤ g) (a' b' c' d' : Value) :
    Below B w0 ((((w.setCell ⟨g, 0, none⟩ a').setCell ⟨g, 1, none⟩ b').setCell ⟨g, 2, none⟩ c').setCell ⟨g, 3, none⟩ d') :=
  (((h.setCell (p := ⟨g, 0, none⟩) hg a').setCell (p := ⟨g, 1, none⟩) hg b').setCell (p := ⟨g, 2, none⟩) hg c').setCell (p := ⟨g, 3, none⟩) hg d'
theorem grown_new_set {w w2 : World} {row : Option Nat} (h : w.grownBy w2 row) {R i : Nat} (hR : w.heap.size ≤ R) (u : Value) : w.grownBy (w2.setCell ⟨R, i, none⟩ u) row :=
  ⟨h.os, h.tape, h.output, by simpa [World.setCell] using h.size, fun k hk hr => (Below.heap_setCell _ _ _ _ (by show k ≠ R; omega)).trans (h.block k hk hr)⟩
theorem grown_set4 {w w2 : World} {row : Option Nat} (h : w.grownBy w2 row) {R : Nat} (hR : w.heap.size ≤ R) (a b c d : Value) :
    w.grownBy ((((w2.setCell ⟨R, 0, none⟩ a).setCell ⟨R, 1, none⟩ b).setCell ⟨R, 2, none⟩ c).setCell ⟨R, 3, none⟩ d) row :=
  grown_new_set (grown_new_set (grown_new_set (grown_new_set h hR a) hR b) hR c) hR d
theorem grown_alloc {w w2 : World} {row : Option Nat} (h : w.grownBy w2 row) (o : Obj) : w.grownBy (w2.alloc o) row :=
  grown_trans h (grown_of_below ((Below.refl _ _).alloc (Nat.le_refl _) o) _)
theorem grown_from_alloc {w w2 : World} {row : Option Nat} {o : Obj} (h : (w.alloc o).grownBy w2 row) : w.grownBy w2 row :=
  grown_trans (grown_of_below ((Below.refl _ _).alloc (Nat.le_refl _) o) _) h
end Go.Proofs.Ytlcdabmclcfagaa
