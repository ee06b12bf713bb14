import Derived.Deep.Strs
import Derived.Test.YtegoeagmadhpgaaOpenFM
import Derived.Test.YtegoeagmadhpgaaLeafRM
set_option linter.unusedVariables false
set_option linter.unusedSimpArgs false
/- Children that came in, opened. -/
namespace Go.Proofs.Ytegoeagmadhpgaa
open Go.ChangeShapes Go.WideShapes Go.ChangeAt Go.RowKit Go.Deep Go.Joins

section
variable {H : Type} {enc : TypeId × Value → H} {P : Program} {w : World} {base : Nat} {spare : Nat → Bool} {held : Bool}
theorem open_chd {t : TypeId} {g0 g1 g2 f0 f1 f2 f3 : Field} {n : Nat} {cs : List Value} {x : DataW H × List MemPlace} (hs : P.underlying t = some (.struct #[g0, g1, g2])) (hg0 : P.underlying g0.type = some (.struct #[f0, f1, f2, f3])) (hg1 : P.underlying g1.type = some (.int .i64)) (hg2 : P.underlying g2.type = some (.int .i64))
    (h0 : P.underlying f0.type = some (.int .i64)) (h1 : P.underlying f1.type = some (.int .u8)) (h2 : P.underlying f2.type = some .string) (h3 : P.underlying f3.type = some (.int .i64))
    (hcs : (P.cellsOf t, P.cellsOf g0.type, P.cellsOf g1.type, P.cellsOf g2.type) = (6, 4, 1, 1)) (og : (g0.offset, g1.offset, g2.offset) = (0, 4, 5)) (o : (f0.offset, f1.offset, f2.offset, f3.offset) = (0, 1, 2, 3)) (hk : (P.cellsOf f0.type, P.cellsOf f1.type, P.cellsOf f2.type, P.cellsOf f3.type) = (1, 1, 1, 1))
    (h : DataW.trod enc P w base spare held n t cs = some x) :
    ∃ f : Chd, cs = chdCells f (.slice none 0 0) ∧ okKy f.key := by
  obtain ⟨y0, y1, y2, m, hx, hl, t0, t1, t2⟩ := trod_struct3 hs h
  simp only [Prod.mk.injEq] at hcs og
  rw [hcs.1] at hl
  rw [og.1, hcs.2.1] at t0
  rw [og.2.1, hcs.2.2.1] at t1
  rw [og.2.2, hcs.2.2.2] at t2
  match cs, hl with
  | [c0, c1, c2, c3, c4, c5], _ =>
    obtain ⟨k, e0, hk0⟩ := open_key hg0 h0 h1 h2 h3 hcs.2.1 o hk t0
    simp at e0
    obtain ⟨rfl, rfl, rfl, rfl⟩ := e0
    obtain ⟨b, e4, _, _⟩ := DataW.trod_int hg1 t1
    obtain ⟨q, e5, _, _⟩ := DataW.trod_int hg2 t2
    simp at e4 e5
    subst e4 e5
    exact ⟨⟨k, b, q⟩, rfl, hk0⟩
theorem open_chds {r : Reach} {b0 : Nat} {t e : TypeId} {v : Value} {d : DataW H} {p : List MemPlace} {g0 g1 g2 f0 f1 f2 f3 : Field} (ht : P.underlying t = some (.slice e)) (hs : P.underlying e = some (.struct #[g0, g1, g2])) (hg0 : P.underlying g0.type = some (.struct #[f0, f1, f2, f3])) (hg1 : P.underlying g1.type = some (.int .i64)) (hg2 : P.underlying g2.type = some (.int .i64))
    (h0 : P.underlying f0.type = some (.int .i64)) (h1 : P.underlying f1.type = some (.int .u8)) (h2 : P.underlying f2.type = some .string) (h3 : P.underlying f3.type = some (.int .i64))
    (hcs : (P.cellsOf e, P.cellsOf g0.type, P.cellsOf g1.type, P.cellsOf g2.type) = (6, 4, 1, 1)) (og : (g0.offset, g1.offset, g2.offset) = (0, 4, 5)) (o : (f0.offset, f1.offset, f2.offset, f3.offset) = (0, 1, 2, 3)) (hk : (P.cellsOf f0.type, P.cellsOf f1.type, P.cellsOf f2.type, P.cellsOf f3.type) = (1, 1, 1, 1))
    (hv : Value.okWide P w r b0 t v) (h : DataW.Trod enc P w base spare held t v d p) :
    ∃ (A : Option Addr) (c : Nat) (l : List Chd), v = .slice A l.length c ∧ ChdsIn w A l.length l ∧ l.length ≤ c ∧ c ≤ maxLen ∧ Long d l.length := by
  obtain ⟨a, len, cap, rfl⟩ := okWide_slice ht hv
  obtain ⟨fuel, hf⟩ := h
  rcases open_slice ht hf with ⟨hcs', hx⟩ | ⟨x, l, c, m, n, D, Pl, hcs', _, hl, hm, hmm, hx, hi⟩
  · simp [Value.cells] at hcs'
    obtain ⟨rfl, rfl, rfl⟩ := hcs'
    simp only [Prod.mk.injEq] at hx
    exact ⟨none, 0, [], rfl, ⟨rfl, fun i a h => by simp at h⟩, Nat.le_refl _, by decide, .inl ⟨hx.1, rfl⟩⟩
  · simp [Value.cells] at hcs'
    obtain ⟨rfl, rfl, rfl⟩ := hcs'
    simp only [Prod.mk.injEq] at hx
    have hlm : len ≤ m := by rw [hmm]; split <;> omega
    have hce : P.cellsOf e = 6 := by simp only [Prod.mk.injEq] at hcs; exact hcs.1
    obtain ⟨rows, hrl, hrp⟩ := list_of_lt (n := len) (p := fun i (f : Chd) => okKy f.key ∧ ∃ ad v, some x = some ad ∧ ValB w none v f.val ∧ ∀ k u, (chdCells f v)[k]? = some u → w.cell? ((ad.add (i * 6)).add k) = some u) (fun i hlt => by
      obtain ⟨cs', q1, q2⟩ := hi i (by omega)
      obtain ⟨f, e1, e2⟩ := open_chd hs hg0 hg1 hg2 h0 h1 h2 h3 hcs og o hk q2
      rw [hce] at q1
      obtain ⟨_, hlen, hcell⟩ := World.cells?_some q1
      refine ⟨f, e2, x, .slice none 0 0, rfl, ⟨none, 0, rfl, RV.nil _ _, Nat.le_refl _, by decide, fun _ h => by cases h⟩, fun k u hu => ?_⟩
      rw [← e1] at hu
      have hk5 : k < cs'.length := (List.getElem?_eq_some_iff.1 hu).1
      have := hcell k (by omega)
      rw [this]
      simpa using hu)
    exact ⟨some x, cap, rows, by rw [hrl], ⟨rfl, fun i f hf => hrp i f hf⟩, by omega, hm, .inr ⟨_, _, hx.1, by simp [hrl]⟩⟩
end
end Go.Proofs.Ytegoeagmadhpgaa
