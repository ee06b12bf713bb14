import Derived.Lib.SmallJoins
import Derived.ChangeArms
import Derived.Test.YtlioclicopakbaaMOpen
import Derived.Test.YtlioclicopakbaaMPlain
set_option linter.unusedVariables false
set_option linter.unusedSimpArgs false
/- Facts that came in, opened. -/
namespace Go.Proofs.Ytlioclicopakbaa
open Go.ChangeShapes Go.WideShapes Go.ChangeAt Go.RowKit Go.Deep Go.Joins

section
variable {H : Type} {enc : TypeId × Value → H} {P : Program} {w : World} {base : Nat} {spare : Nat → Bool} {held : Bool}
theorem open_key {t : TypeId} {f0 f1 f2 f3 : Field} {n : Nat} {cs : List Value} {x : DataW H × List MemPlace} (hs : P.underlying t = some (.struct #[f0, f1, f2, f3]))
    (h0 : P.underlying f0.type = some (.int .i64)) (h1 : P.underlying f1.type = some (.int .u8)) (h2 : P.underlying f2.type = some .string) (h3 : P.underlying f3.type = some (.int .i64))
    (hc : P.cellsOf t = 4) (o : (f0.offset, f1.offset, f2.offset, f3.offset) = (0, 1, 2, 3)) (hk : (P.cellsOf f0.type, P.cellsOf f1.type, P.cellsOf f2.type, P.cellsOf f3.type) = (1, 1, 1, 1))
    (h : DataW.trod enc P w base spare held n t cs = some x) :
    ∃ k : Ky, cs = [.int .i64 k.ino, .int .u8 (k.what.toNat : Int), .string k.name, .int .i64 k.chunk] ∧ okKy k := by
  obtain ⟨y0, y1, y2, y3, m, _, hl, t0, t1, t2, t3⟩ := trod_struct4 hs h
  rw [hc] at hl
  simp only [Prod.mk.injEq] at o hk
  rw [o.1, hk.1] at t0
  rw [o.2.1, hk.2.1] at t1
  rw [o.2.2.1, hk.2.2.1] at t2
  rw [o.2.2.2, hk.2.2.2] at t3
  match cs, hl with
  | [c0, c1, c2, c3], _ =>
    obtain ⟨n0, e0, _, w0⟩ := DataW.trod_int h0 t0
    obtain ⟨n1, e1, _, w1⟩ := DataW.trod_int h1 t1
    obtain ⟨s, e2, _, hs2⟩ := DataW.trod_string h2 t2
    obtain ⟨n3, e3, _, w3⟩ := DataW.trod_int h3 t3
    simp at e0 e1 e2 e3
    subst e0 e1 e2 e3
    simp [Lit.wf, IntKind.min, IntKind.max, IntKind.signed, IntKind.bits] at w1
    refine ⟨⟨n0, UInt8.ofNat n1.toNat, s, n3⟩, ?_, hs2⟩
    dsimp only
    rw [UInt8.toNat_ofNat']
    have : ((n1.toNat % 2 ^ 8 : Nat) : Int) = n1 := by omega
    rw [this]
theorem open_fact {t : TypeId} {g0 g1 f0 f1 f2 f3 : Field} {b : TypeId} {n : Nat} {cs : List Value} {x : DataW H × List MemPlace} (hs : P.underlying t = some (.struct #[g0, g1])) (hg0 : P.underlying g0.type = some (.struct #[f0, f1, f2, f3])) (hg1 : P.underlying g1.type = some (.slice b)) (hb : P.underlying b = some (.int .u8))
    (h0 : P.underlying f0.type = some (.int .i64)) (h1 : P.underlying f1.type = some (.int .u8)) (h2 : P.underlying f2.type = some .string) (h3 : P.underlying f3.type = some (.int .i64))
    (hcs : (P.cellsOf t, P.cellsOf g0.type, P.cellsOf g1.type, P.cellsOf b) = (5, 4, 1, 1)) (og : (g0.offset, g1.offset) = (0, 4)) (o : (f0.offset, f1.offset, f2.offset, f3.offset) = (0, 1, 2, 3)) (hk : (P.cellsOf f0.type, P.cellsOf f1.type, P.cellsOf f2.type, P.cellsOf f3.type) = (1, 1, 1, 1))
    (h : DataW.trod enc P w base spare held n t cs = some x) :
    ∃ (f : Fct) (B : Option Addr) (d : Nat) (dk dv : DataW H), cs = fctCells f (.slice B f.val.length d) ∧ okKy f.key ∧ RV w B (bv f.val) ∧ f.val.length ≤ d ∧ d ≤ maxLen ∧ x.1 = .agg [dk, dv] ∧ Long dv f.val.length := by
  obtain ⟨y0, y1, m, hx, hl, t0, t1⟩ := trod_struct2 hs h
  simp only [Prod.mk.injEq] at hcs og
  rw [hcs.1] at hl
  rw [og.1, hcs.2.1] at t0
  rw [og.2, hcs.2.2.1] at t1
  match cs, hl with
  | [c0, c1, c2, c3, c4], _ =>
    obtain ⟨k, e0, hk0⟩ := open_key hg0 h0 h1 h2 h3 hcs.2.1 o hk t0
    simp at e0
    obtain ⟨rfl, rfl, rfl, rfl⟩ := e0
    simp at t1
    rcases open_ints hg1 hb hcs.2.2.2 t1 with ⟨hcs', hy⟩ | ⟨a, l, c, zs, hcs', _, hl, hm, hz, hy, hcell, hwz⟩
    · injection hcs' with hcs'
      subst hcs'
      refine ⟨⟨k, []⟩, none, 0, y0.1, y1.1, rfl, hk0, RV.nil _ _, Nat.le_refl _, by decide, by rw [hx], ?_⟩
      rw [hy]
      exact .inl ⟨rfl, rfl⟩
    · injection hcs' with hcs'
      have hlen : l ≤ zs.length := by rw [hz]; split <;> omega
      obtain ⟨xs, hxs, hxl⟩ := bytes_of_wf (zs.take l) (fun n hn => hwz n (List.mem_of_mem_take hn))
      have htl : (zs.take l).length = l := by rw [List.length_take]; omega
      have hxl' : xs.length = l := by omega
      subst hcs'
      refine ⟨⟨k, xs⟩, some a, c, y0.1, y1.1, by simp only [fctCells, hxl'], hk0, fun _ => ⟨a, rfl, fun j u hu => ?_⟩, by show xs.length ≤ c; omega, hm, by rw [hx], ?_⟩
      · rw [← hxs, List.getElem?_map, List.getElem?_take] at hu
        split at hu
        · rename_i hj
          have hjz : j < zs.length := by omega
          rw [List.getElem?_eq_getElem hjz] at hu
          injection hu with hu
          rw [hcell j hjz, ← hu]
          simp [List.getD, List.getElem?_eq_getElem hjz]
        · cases hu
      · rw [hy]
        refine .inr ⟨_, _, rfl, ?_⟩
        simp [lits]
        omega
theorem weightsAll_mem {e : TypeId} {n : Nat} {d : DataW H} : ∀ {l : List (DataW H)}, d ∈ l → n ∈ d.weights P e → n ∈ DataW.weightsAll P e l
  | c :: l, hd, hn => by
    rw [DataW.weightsAll, List.mem_append]
    rcases List.mem_cons.1 hd with rfl | hd
    · exact .inl hn
    · exact .inr (weightsAll_mem hd hn)
theorem open_facts {r : Reach} {b0 : Nat} {t e : TypeId} {v : Value} {d : DataW H} {p : List MemPlace} {g0 g1 f0 f1 f2 f3 : Field} {b : TypeId} (ht : P.underlying t = some (.slice e)) (hs : P.underlying e = some (.struct #[g0, g1])) (hg0 : P.underlying g0.type = some (.struct #[f0, f1, f2, f3])) (hg1 : P.underlying g1.type = some (.slice b)) (hb : P.underlying b = some (.int .u8))
    (h0 : P.underlying f0.type = some (.int .i64)) (h1 : P.underlying f1.type = some (.int .u8)) (h2 : P.underlying f2.type = some .string) (h3 : P.underlying f3.type = some (.int .i64))
    (hcs : (P.cellsOf e, P.cellsOf g0.type, P.cellsOf g1.type, P.cellsOf b) = (5, 4, 1, 1)) (og : (g0.offset, g1.offset) = (0, 4)) (o : (f0.offset, f1.offset, f2.offset, f3.offset) = (0, 1, 2, 3)) (hk : (P.cellsOf f0.type, P.cellsOf f1.type, P.cellsOf f2.type, P.cellsOf f3.type) = (1, 1, 1, 1)) (hby : P.bytesOf b = 1)
    (hv : Value.okWide P w r b0 t v) (hsz : ∀ n ∈ d.weights P t, n ≤ reachBytes) (h : DataW.Trod enc P w base spare held t v d p) :
    ∃ (A : Option Addr) (c : Nat) (l : List Fct), v = .slice A l.length c ∧ FctsIn w A l.length l ∧ l.length ≤ c ∧ c ≤ maxLen ∧ (∀ f ∈ l, f.val.length ≤ 140737488351232) ∧ Long d l.length := by
  obtain ⟨a, len, cap, rfl⟩ := okWide_slice ht hv
  obtain ⟨fuel, hf⟩ := h
  rcases open_slice ht hf with ⟨hcs', hx⟩ | ⟨x, l, c, m, n, D, Pl, hcs', _, hl, hm, hmm, hx, hi⟩
  · simp [Value.cells] at hcs'
    obtain ⟨rfl, rfl, rfl⟩ := hcs'
    simp only [Prod.mk.injEq] at hx
    exact ⟨none, 0, [], rfl, ⟨rfl, fun i a h => by simp at h⟩, Nat.le_refl _, by decide, (fun _ h => by cases h), .inl ⟨hx.1, rfl⟩⟩
  · simp [Value.cells] at hcs'
    obtain ⟨rfl, rfl, rfl⟩ := hcs'
    simp only [Prod.mk.injEq] at hx
    have hlm : len ≤ m := by rw [hmm]; split <;> omega
    have hce : P.cellsOf e = 5 := by simp only [Prod.mk.injEq] at hcs; exact hcs.1
    obtain ⟨rows, hrl, hrp⟩ := list_of_lt (n := len) (p := fun i (f : Fct) => f.val.length ≤ 140737488351232 ∧ okKy f.key ∧ ∃ ad v, some x = some ad ∧ ValB w none v f.val ∧ ∀ k u, (fctCells f v)[k]? = some u → w.cell? ((ad.add (i * 5)).add k) = some u) (fun i hlt => by
      obtain ⟨cs', q1, q2⟩ := hi i (by omega)
      obtain ⟨f, B, dd, dk, dv, e1, e2, e3, e4, e5, e6, e7⟩ := open_fact hs hg0 hg1 hb h0 h1 h2 h3 hcs og o hk q2
      rw [hce] at q1
      obtain ⟨_, hlen, hcell⟩ := World.cells?_some q1
      refine ⟨f, ?_, e2, x, .slice B f.val.length dd, rfl, ⟨B, dd, rfl, e3, e4, e5, fun _ _ _ h => by cases h⟩, fun k u hu => ?_⟩
      · rcases e7 with ⟨_, e7⟩ | ⟨el, sp, e7, e8⟩
        · omega
        · have hw1 : (el.length + sp.length) * P.bytesOf b ∈ d.weights P t := by
            rw [hx.1, DataW.weights, ht]
            refine List.mem_cons_of_mem _ (List.mem_append_left _ (weightsAll_mem (d := D i) (List.mem_map.2 ⟨i, List.mem_range.2 hlt, rfl⟩) ?_))
            rw [show D i = .agg [dk, dv] from e6, DataW.weights, hs]
            simp only [DataW.weightsEach, List.map_cons, List.map_nil]
            refine List.mem_append_right _ ?_
            rw [e7]
            simp [DataW.weights, hg1]
          have := hsz _ hw1
          rw [hby] at this
          have h3 : reachBytes = 140737488351232 := by decide
          omega
      · rw [← e1] at hu
        have hk5 : k < cs'.length := (List.getElem?_eq_some_iff.1 hu).1
        have := hcell k (by omega)
        rw [this]
        simpa using hu)
    refine ⟨some x, cap, rows, by rw [hrl], ⟨rfl, fun i f hf => (hrp i f hf).2⟩, by omega, hm, fun f hf => ?_, .inr ⟨_, _, hx.1, by simp [hrl]⟩⟩
    obtain ⟨j, hj⟩ := List.mem_iff_getElem?.1 hf
    exact (hrp j f hj).1
end
end Go.Proofs.Ytlioclicopakbaa
