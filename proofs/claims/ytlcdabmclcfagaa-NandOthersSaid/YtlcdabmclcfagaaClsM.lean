import Derived.Deep.QuietTactic
import Derived.BigQuiet
import Derived.Test.YtlcdabmclcfagaaMBase
set_option linter.unusedVariables false
set_option linter.unusedSimpArgs false
/- A region that draws its order, whose operations read and whose callees may lay blocks: one walk, in the worlds that meet a condition. -/
namespace Go.Proofs.Ytlcdabmclcfagaa
open Go.RowKit

/-- A world that meets a condition. -/
structure InC (C : World → Prop) where
  w : World
  h : C w
theorem wp_region_class {P : Program} {id : Nat} {Q : Exit → Act → World → Prop} {a : Act} {w : World} {l : List Oper} (C : World → Prop) (hm : P.follows .mixedOrders = true) (hB : Region.lexB .any l.toArray = true) (hC : C w.drew)
    (h : wpQuiet P l.toArray (fun w' => ∃ p : InC C, w' = p.w) (fun a' => ∀ w', (∃ p : InC C, w' = p.w) → Q .normal a' w') l a) : (Code.region id l.toArray true).wp P Q a w :=
  wp_region_quiet (C := fun w' => ∃ p : InC C, w' = p.w) hm hB ⟨⟨w.drew, hC⟩, rfl⟩ (by simpa using h)
/-- A callee's contract, met in such a world. -/
theorem class_call {P : Program} {f : FuncId} {args : Array Value} {w : World} {v : Value} {C : World → Prop} (h : Calls P f args w fun e w' => e = .returned v ∧ Below w.heap.size w w') (hs : ∀ w', Below w.heap.size w w' → C w') :
    Calls P f args w fun e w' => e = .returned v ∧ ∃ p : InC C, w' = p.w :=
  h.mono fun _ w' ⟨he, hc⟩ => ⟨he, ⟨w', hs w' hc⟩, rfl⟩
end Go.Proofs.Ytlcdabmclcfagaa
