/- A struct of four numbers that came in, by value, opened. -/
import Derived.Test.YtakjjfohjodepaaOpen
import Derived.Lib.SmallJoins
set_option linter.unusedVariables false
set_option linter.unusedSimpArgs false
namespace Go.Proofs.Ytakjjfohjodepaa
open Go.ChangeShapes Go.WideShapes Go.ChangeAt Go.RowKit Go.Deep Go.Joins

section
variable {H : Type} {enc : TypeId × Value → H} {P : Program} {w : World} {base : Nat} {spare : Nat → Bool} {held : Bool}
theorem open_point {r : Reach} {b0 : Nat} {t : TypeId} {f0 f1 f2 f3 : Field} {v : Value} {d : DataW H} {p : List MemPlace} (hs : P.underlying t = some (.struct #[f0, f1, f2, f3]))
    (h0 : P.underlying f0.type = some (.int .u64)) (h1 : P.underlying f1.type = some (.int .i64)) (h2 : P.underlying f2.type = some (.int .i64)) (h3 : P.underlying f3.type = some (.int .i64))
    (hc : P.cellsOf t = 4) (o : (f0.offset, f1.offset, f2.offset, f3.offset) = (0, 1, 2, 3)) (hk : (P.cellsOf f0.type, P.cellsOf f1.type, P.cellsOf f2.type, P.cellsOf f3.type) = (1, 1, 1, 1))
    (hv : Value.okWide P w r b0 t v) (h : DataW.Trod enc P w base spare held t v d p) :
    ∃ (n : Nat) (b q c : Int), v = .agg #[.int .u64 (n : Int), .int .i64 b, .int .i64 q, .int .i64 c] ∧ n < 18446744073709551616 := by
  obtain ⟨cs, rfl, hsz⟩ := okWide_struct hs hv
  obtain ⟨fuel, hf⟩ := h
  rw [hc] at hsz
  obtain ⟨c0, c1, c2, c3, rfl⟩ := array4 hsz
  obtain ⟨y0, y1, y2, y3, n, _, _, t0, t1, t2, t3⟩ := trod_struct4 hs hf
  simp only [Prod.mk.injEq] at o hk
  rw [o.1, hk.1] at t0
  rw [o.2.1, hk.2.1] at t1
  rw [o.2.2.1, hk.2.2.1] at t2
  rw [o.2.2.2, hk.2.2.2] at t3
  obtain ⟨n0, e0, _, w0⟩ := DataW.trod_int h0 t0
  obtain ⟨n1, e1, _, _⟩ := DataW.trod_int h1 t1
  obtain ⟨n2, e2, _, _⟩ := DataW.trod_int h2 t2
  obtain ⟨n3, e3, _, _⟩ := DataW.trod_int h3 t3
  simp [Value.cells] at e0 e1 e2 e3
  subst e0 e1 e2 e3
  simp [Lit.wf, IntKind.min, IntKind.max, IntKind.signed, IntKind.bits] at w0
  refine ⟨n0.toNat, n1, n2, n3, ?_, by omega⟩
  rw [Int.toNat_of_nonneg w0.1]
end
end Go.Proofs.Ytakjjfohjodepaa
