import Derived.Test.YtlioclicopakbaaOpenFM
set_option linter.unusedVariables false
set_option linter.unusedSimpArgs false
/- One fact that came in, by value, opened. -/
namespace Go.Proofs.Ytlioclicopakbaa
open Go.ChangeShapes Go.WideShapes Go.ChangeAt Go.RowKit Go.Deep Go.Joins

section
variable {H : Type} {enc : TypeId × Value → H} {P : Program} {w : World} {base : Nat} {spare : Nat → Bool} {held : Bool}
theorem open_fact1 {r : Reach} {b0 : Nat} {t : TypeId} {v : Value} {dt : DataW H} {p : List MemPlace} {g0 g1 f0 f1 f2 f3 : Field} {b : TypeId} (hs : P.underlying t = some (.struct #[g0, g1])) (hg0 : P.underlying g0.type = some (.struct #[f0, f1, f2, f3])) (hg1 : P.underlying g1.type = some (.slice b)) (hb : P.underlying b = some (.int .u8))
    (h0 : P.underlying f0.type = some (.int .i64)) (h1 : P.underlying f1.type = some (.int .u8)) (h2 : P.underlying f2.type = some .string) (h3 : P.underlying f3.type = some (.int .i64))
    (hcs : (P.cellsOf t, P.cellsOf g0.type, P.cellsOf g1.type, P.cellsOf b) = (5, 4, 1, 1)) (og : (g0.offset, g1.offset) = (0, 4)) (o : (f0.offset, f1.offset, f2.offset, f3.offset) = (0, 1, 2, 3)) (hk : (P.cellsOf f0.type, P.cellsOf f1.type, P.cellsOf f2.type, P.cellsOf f3.type) = (1, 1, 1, 1)) (hby : P.bytesOf b = 1)
    (hv : Value.okWide P w r b0 t v) (hsz : ∀ n ∈ dt.weights P t, n ≤ reachBytes) (h : DataW.Trod enc P w base spare held t v dt p) :
    ∃ (f : Fct) (B : Option Addr) (d : Nat), v = .agg #[.int .i64 f.key.ino, .int .u8 (f.key.what.toNat : Int), .string f.key.name, .int .i64 f.key.chunk, .slice B f.val.length d] ∧ okKy f.key ∧ RV w B (bv f.val) ∧ f.val.length ≤ d ∧ d ≤ maxLen ∧ f.val.length ≤ 140737488351232 := by
  obtain ⟨cs, rfl, hz⟩ := okWide_struct hs hv
  obtain ⟨fuel, hf⟩ := h
  obtain ⟨f, B, d, dk, dv, e1, e2, e3, e4, e5, e6, e7⟩ := open_fact hs hg0 hg1 hb h0 h1 h2 h3 hcs og o hk hf
  refine ⟨f, B, d, ?_, e2, e3, e4, e5, ?_⟩
  · congr 1
    apply Array.toList_inj.1
    simpa [Value.cells, fctCells] using e1
  · rcases e7 with ⟨_, e7⟩ | ⟨el, sp, e7, e8⟩
    · omega
    · have hw1 : (el.length + sp.length) * P.bytesOf b ∈ dt.weights P t := by
        dsimp only at e6
        rw [e6, DataW.weights, hs]
        simp only [DataW.weightsEach, List.map_cons, List.map_nil]
        refine List.mem_append_right _ ?_
        rw [e7]
        simp [DataW.weights, hg1]
      have := hsz _ hw1
      rw [hby] at this
      have h3 : reachBytes = 140737488351232 := by decide
      omega
end
end Go.Proofs.Ytlioclicopakbaa
