import Derived.Lib.SmallJoins
import Derived.ChangeArms
import Derived.Test.YtlcdabmclcfagaaMOpen
import Derived.Test.YtlcdabmclcfagaaPldM
set_option linter.unusedVariables false
set_option linter.unusedSimpArgs false
/- Nand's arguments that came in, opened: a geometry, acts. -/
namespace Go.Proofs.Ytlcdabmclcfagaa
open Go.ChangeShapes Go.WideShapes Go.ChangeAt Go.RowKit Go.Deep Go.Joins

section
variable {H : Type} {enc : TypeId × Value → H} {P : Program} {w : World} {base : Nat} {spare : Nat → Bool} {held : Bool}
theorem trod_struct6 {t : TypeId} {f0 f1 f2 f3 f4 f5 : Field} {fuel : Nat} {cs : List Value} {x : DataW H × List MemPlace} (ht : P.underlying t = some (.struct #[f0, f1, f2, f3, f4, f5])) (h : DataW.trod enc P w base spare held fuel t cs = some x) :
    ∃ y0 y1 y2 y3 y4 y5 n, x.1 = .agg [y0.1, y1.1, y2.1, y3.1, y4.1, y5.1] ∧ cs.length = P.cellsOf t ∧ DataW.trod enc P w base spare held n f0.type ((cs.drop f0.offset).take (P.cellsOf f0.type)) = some y0 ∧
      DataW.trod enc P w base spare held n f1.type ((cs.drop f1.offset).take (P.cellsOf f1.type)) = some y1 ∧ DataW.trod enc P w base spare held n f2.type ((cs.drop f2.offset).take (P.cellsOf f2.type)) = some y2 ∧
      DataW.trod enc P w base spare held n f3.type ((cs.drop f3.offset).take (P.cellsOf f3.type)) = some y3 ∧ DataW.trod enc P w base spare held n f4.type ((cs.drop f4.offset).take (P.cellsOf f4.type)) = some y4 ∧
      DataW.trod enc P w base spare held n f5.type ((cs.drop f5.offset).take (P.cellsOf f5.type)) = some y5 := by
  obtain ⟨xs, n, _, rfl, hl, hlen, hf⟩ := DataW.trod_struct ht h
  match xs, hlen with
  | [y0, y1, y2, y3, y4, y5], _ => exact ⟨y0, y1, y2, y3, y4, y5, n, by simp, hl, by simpa using hf 0 f0 rfl, by simpa using hf 1 f1 rfl, by simpa using hf 2 f2 rfl, by simpa using hf 3 f3 rfl, by simpa using hf 4 f4 rfl, by simpa using hf 5 f5 rfl⟩

/-! ### what is handed in is not too great -/
def Fit (P : Program) (t : TypeId) (d : DataW H) : Prop := ∀ n ∈ d.weights P t, n ≤ 140737488351232
theorem Fit.agg {t : TypeId} {fs : Array Field} {ds : List (DataW H)} (h : Fit P t (.agg ds)) (hs : P.underlying t = some (.struct fs)) {j : Nat} {f : Field} {d : DataW H} (hf : fs[j]? = some f) (hd : ds[j]? = some d) : Fit P f.type d := by
  intro n hn
  refine h n ?_
  rw [DataW.weights, hs]
  exact DataW.weights_mem_each (j := j) (t := f.type) (d := d) (by rw [List.getElem?_map, Array.getElem?_toList, hf]; rfl) hd n hn
theorem weightsAll_mem' {e : TypeId} {n : Nat} {d : DataW H} : ∀ {l : List (DataW H)}, d ∈ l → n ∈ d.weights P e → n ∈ DataW.weightsAll P e l
  | c :: l, hd, hn => by
    rw [DataW.weightsAll, List.mem_append]
    rcases List.mem_cons.1 hd with rfl | hd
    · exact .inl hn
    · exact .inr (weightsAll_mem' hd hn)
theorem Fit.elem {t e : TypeId} {el sp : List (DataW H)} (h : Fit P t (.slice el sp)) (ht : P.underlying t = some (.slice e)) {d : DataW H} (hd : d ∈ el) : Fit P e d := by
  intro n hn
  refine h n ?_
  rw [DataW.weights, ht]
  exact List.mem_cons_of_mem _ (List.mem_append_left _ (weightsAll_mem' hd hn))
theorem Fit.long {t e : TypeId} {d : DataW H} {n : Nat} (h : Fit P t d) (ht : P.underlying t = some (.slice e)) (hl : Long d n) : n * P.bytesOf e ≤ 140737488351232 := by
  rcases hl with ⟨rfl, rfl⟩ | ⟨el, sp, rfl, rfl⟩
  · simp
  · have h1 : (el.length + sp.length) * P.bytesOf e ∈ DataW.weights P t (.slice el sp) := by
      rw [DataW.weights, ht]
      exact List.mem_cons_self
    exact Nat.le_trans (Nat.mul_le_mul_right _ (Nat.le_add_right _ _)) (h _ h1)

/-! ### bytes, what strikes -/
theorem open_bytesI {t b : TypeId} {n : Nat} {c : Value} {y : DataW H × List MemPlace} (ht : P.underlying t = some (.slice b)) (hb : P.underlying b = some (.int .u8)) (hc : P.cellsOf b = 1) (h : DataW.trod enc P w base spare held n t [c] = some y) :
    ∃ (B : Option Addr) (xs : List UInt8) (d : Nat), c = .slice B xs.length d ∧ RV w B (bv xs) ∧ xs.length ≤ d ∧ d ≤ maxLen ∧ Long y.1 xs.length := by
  rcases open_ints ht hb hc h with ⟨hcs', hy⟩ | ⟨a, l, d, zs, hcs', _, hl, hm, hz, hy, hcell, hwz⟩
  · injection hcs' with hcs'
    subst hcs'
    refine ⟨none, [], 0, rfl, RV.nil _ _, Nat.le_refl _, by decide, ?_⟩
    rw [hy]
    exact .inl ⟨rfl, rfl⟩
  · injection hcs' with hcs'
    have hlen : l ≤ zs.length := by rw [hz]; split <;> omega
    obtain ⟨xs, hxs, hxl⟩ := bytes_of_wf (zs.take l) (fun n hn => hwz n (List.mem_of_mem_take hn))
    have htl : (zs.take l).length = l := by rw [List.length_take]; omega
    have hxl' : xs.length = l := by omega
    subst hcs'
    refine ⟨some a, xs, d, by rw [hxl'], fun _ => ⟨a, rfl, fun j u hu => ?_⟩, by omega, hm, ?_⟩
    · rw [← hxs, List.getElem?_map, List.getElem?_take] at hu
      split at hu
      · rename_i hj
        have hjz : j < zs.length := by omega
        rw [List.getElem?_eq_getElem hjz] at hu
        injection hu with hu
        rw [hcell j hjz, ← hu]
        simp [List.getD, List.getElem?_eq_getElem hjz]
      · cases hu
    · rw [hy]
      refine .inr ⟨_, _, rfl, ?_⟩
      simp [lits]
      omega
theorem open_hit {t b : TypeId} {g0 g1 g2 : Field} {n : Nat} {cs : List Value} {x : DataW H × List MemPlace} (hs : P.underlying t = some (.struct #[g0, g1, g2])) (h0 : P.underlying g0.type = some (.int .i64)) (h1 : P.underlying g1.type = some .bool) (h2 : P.underlying g2.type = some (.slice b)) (hb : P.underlying b = some (.int .u8))
    (hcs : (P.cellsOf t, P.cellsOf g0.type, P.cellsOf g1.type, P.cellsOf g2.type, P.cellsOf b) = (3, 1, 1, 1, 1)) (og : (g0.offset, g1.offset, g2.offset) = (0, 1, 2)) (hby : P.bytesOf b = 1) (hfit : Fit P t x.1)
    (h : DataW.trod enc P w base spare held n t cs = some x) :
    ∃ (f : Htt) (B : Option Addr) (d : Nat), cs = hitCells f (.slice B f.mask.length d) ∧ RV w B (bv f.mask) ∧ f.mask.length ≤ d ∧ d ≤ maxLen ∧ f.mask.length ≤ 140737488351232 := by
  obtain ⟨y0, y1, y2, m, hx, hl, t0, t1, t2⟩ := trod_struct3 hs h
  simp only [Prod.mk.injEq] at hcs og
  rw [hcs.1] at hl
  rw [og.1, hcs.2.1] at t0
  rw [og.2.1, hcs.2.2.1] at t1
  rw [og.2.2, hcs.2.2.2.1] at t2
  match cs, hl with
  | [c0, c1, c2], _ =>
    obtain ⟨af, e0, _, _⟩ := DataW.trod_int h0 t0
    obtain ⟨fl, e1, _⟩ := DataW.trod_bool h1 t1
    simp at e0 e1 t2
    obtain ⟨B, xs, d, e2, hr, l1, l2, hl2⟩ := open_bytesI h2 hb hcs.2.2.2.2 t2
    subst e0 e1 e2
    have hf2 := (show Fit P t (.agg [y0.1, y1.1, y2.1]) from by rw [hx] at hfit; exact hfit).agg hs (j := 2) (f := g2) (d := y2.1) rfl rfl
    have := hf2.long h2 hl2
    rw [hby, Nat.mul_one] at this
    exact ⟨⟨af, fl, xs⟩, B, d, rfl, hr, l1, l2, this⟩
theorem open_hitsI {t e b : TypeId} {g0 g1 g2 : Field} {n : Nat} {c : Value} {y : DataW H × List MemPlace} (ht : P.underlying t = some (.slice e)) (hs : P.underlying e = some (.struct #[g0, g1, g2])) (h0 : P.underlying g0.type = some (.int .i64)) (h1 : P.underlying g1.type = some .bool) (h2 : P.underlying g2.type = some (.slice b)) (hb : P.underlying b = some (.int .u8))
    (hcs : (P.cellsOf e, P.cellsOf g0.type, P.cellsOf g1.type, P.cellsOf g2.type, P.cellsOf b) = (3, 1, 1, 1, 1)) (og : (g0.offset, g1.offset, g2.offset) = (0, 1, 2)) (hby : P.bytesOf b = 1) (hbe : P.bytesOf e = 40) (hfit : Fit P t y.1)
    (h : DataW.trod enc P w base spare held n t [c] = some y) :
    ∃ (A : Option Addr) (l : List Htt) (d : Nat), c = .slice A l.length d ∧ HitsP w (fun k => k < w.heap.size) A l ∧ l.length * 40 ≤ 140737488351232 ∧ ∀ x ∈ l, x.mask.length ≤ 140737488351232 := by
  rcases open_slice ht h with ⟨hcs', hx⟩ | ⟨a, len, cap, m, n', D, Pl, hcs', _, hl, hm, hmm, hx, hi⟩
  · injection hcs' with hcs'
    subst hcs'
    exact ⟨none, [], 0, rfl, HitsP.nil _ _ _, by simp, fun x hx => by cases hx⟩
  · injection hcs' with hcs'
    subst hcs'
    have hlm : len ≤ m := by rw [hmm]; split <;> omega
    have hce : P.cellsOf e = 3 := by simp only [Prod.mk.injEq] at hcs; exact hcs.1
    have hf1 : Fit P t (.slice ((List.range len).map D) ((List.range (m - len)).map fun j => D (len + j))) := by rw [hx] at hfit; exact hfit
    obtain ⟨rows, hrl, hrp⟩ := list_of_lt (n := len) (p := fun i (f : Htt) => f.mask.length ≤ 140737488351232 ∧ ∃ B d, RV w B (bv f.mask) ∧ f.mask.length ≤ d ∧ d ≤ maxLen ∧ ∀ k u, (hitCells f (.slice B f.mask.length d))[k]? = some u → w.cell? ((a.add (i * 3)).add k) = some u) (fun i hlt => by
      obtain ⟨cs', q1, q2⟩ := hi i (by omega)
      obtain ⟨f, B, dd, e1, e2, e3, e4, e5⟩ := open_hit hs h0 h1 h2 hb hcs og hby (hf1.elem ht (List.mem_map.2 ⟨i, List.mem_range.2 hlt, rfl⟩)) q2
      rw [hce] at q1
      obtain ⟨_, hlen, hcell⟩ := World.cells?_some q1
      refine ⟨f, e5, B, dd, e2, e3, e4, fun k u hu => ?_⟩
      rw [← e1] at hu
      have hk5 : k < cs'.length := (List.getElem?_eq_some_iff.1 hu).1
      have := hcell k (by omega)
      rw [this]
      simpa using hu)
    refine ⟨some a, rows, cap, by rw [hrl], fun i f hf => ?_, ?_, fun f hf => ?_⟩
    · obtain ⟨_, B, d, e2, e3, e4, e5⟩ := hrp i f hf
      have k0 : w.cell? (a.add (i * 3)) = some (.int .i64 f.after) := e5 0 _ rfl
      refine ⟨a, B, d, rfl, ?_, k0, e5 1 _ rfl, e5 2 _ rfl, e2, fun bd hB hn => e2.lt hB (by rwa [bv_length]), e3, e4⟩
      have := World.block_lt_of_cell? w _ k0
      rwa [block_add] at this
    · rw [hrl]
      have := hf1.long ht (n := len) (.inr ⟨_, _, rfl, by simp⟩)
      rwa [hbe] at this
    · obtain ⟨j, hj⟩ := List.mem_iff_getElem?.1 hf
      exact (hrp j f hj).1

/-! ### an act -/
theorem open_act {t e b : TypeId} {f0 f1 f2 f3 f4 f5 g0 g1 g2 : Field} {n : Nat} {cs : List Value} {x : DataW H × List MemPlace} (hs : P.underlying t = some (.struct #[f0, f1, f2, f3, f4, f5]))
    (h0 : P.underlying f0.type = some (.int .i64)) (h1 : P.underlying f1.type = some (.int .i64)) (h2 : P.underlying f2.type = some (.int .i64)) (h3 : P.underlying f3.type = some (.int .u8)) (h4 : P.underlying f4.type = some (.slice b)) (h5 : P.underlying f5.type = some (.slice e)) (hb : P.underlying b = some (.int .u8))
    (hse : P.underlying e = some (.struct #[g0, g1, g2])) (k0 : P.underlying g0.type = some (.int .i64)) (k1 : P.underlying g1.type = some .bool) (k2 : P.underlying g2.type = some (.slice b))
    (hc : (P.cellsOf t, P.cellsOf f0.type, P.cellsOf f1.type, P.cellsOf f2.type, P.cellsOf f3.type, P.cellsOf f4.type, P.cellsOf f5.type) = (6, 1, 1, 1, 1, 1, 1)) (of : (f0.offset, f1.offset, f2.offset, f3.offset, f4.offset, f5.offset) = (0, 1, 2, 3, 4, 5))
    (hcs : (P.cellsOf e, P.cellsOf g0.type, P.cellsOf g1.type, P.cellsOf g2.type, P.cellsOf b) = (3, 1, 1, 1, 1)) (og : (g0.offset, g1.offset, g2.offset) = (0, 1, 2)) (hby : P.bytesOf b = 1) (hbe : P.bytesOf e = 40) (hfit : Fit P t x.1)
    (h : DataW.trod enc P w base spare held n t cs = some x) :
    ∃ (f : Ac) (Ab : Option Addr) (db : Nat) (Ah : Option Addr) (dh : Nat), cs = (actCells f Ab db Ah dh).toList ∧ ActIn w w.heap.size f Ab Ah := by
  obtain ⟨y0, y1, y2, y3, y4, y5, m, hx, hl, t0, t1, t2, t3, t4, t5⟩ := trod_struct6 hs h
  simp only [Prod.mk.injEq] at hc of
  have hcb : P.cellsOf b = 1 := by simp only [Prod.mk.injEq] at hcs; exact hcs.2.2.2.2
  rw [hc.1] at hl
  rw [of.1, hc.2.1] at t0
  rw [of.2.1, hc.2.2.1] at t1
  rw [of.2.2.1, hc.2.2.2.1] at t2
  rw [of.2.2.2.1, hc.2.2.2.2.1] at t3
  rw [of.2.2.2.2.1, hc.2.2.2.2.2.1] at t4
  rw [of.2.2.2.2.2, hc.2.2.2.2.2.2] at t5
  have hfa : Fit P t (.agg [y0.1, y1.1, y2.1, y3.1, y4.1, y5.1]) := by rw [hx] at hfit; exact hfit
  match cs, hl with
  | [c0, c1, c2, c3, c4, c5], _ =>
    obtain ⟨n0, e0, _, _⟩ := DataW.trod_int h0 t0
    obtain ⟨n1, e1, _, _⟩ := DataW.trod_int h1 t1
    obtain ⟨n2, e2, _, _⟩ := DataW.trod_int h2 t2
    obtain ⟨n3, e3, _, w3⟩ := DataW.trod_int h3 t3
    simp at e0 e1 e2 e3 t4 t5
    obtain ⟨B, xs, d, e4, hr, l1, l2, hl2⟩ := open_bytesI h4 hb hcb t4
    obtain ⟨Ah, l, dh, e5, hp, hm, hk⟩ := open_hitsI h5 hse k0 k1 k2 hb hcs og hby hbe (hfa.agg hs (j := 5) (f := f5) (d := y5.1) rfl rfl) t5
    subst e0 e1 e2 e3 e4 e5
    simp [Lit.wf, IntKind.min, IntKind.max, IntKind.signed, IntKind.bits] at w3
    have hlb := (hfa.agg hs (j := 4) (f := f4) (d := y4.1) rfl rfl).long h4 hl2
    rw [hby, Nat.mul_one] at hlb
    refine ⟨⟨n0, n1, n2, UInt8.ofNat n3.toNat, xs, l⟩, B, d, Ah, dh, ?_, ⟨hr, fun ad hA h0 => hr.lt hA (by rwa [bv_length]), by show xs.length ≤ _; omega, hp, hm, hk⟩⟩
    unfold actCells
    dsimp only
    rw [UInt8.toNat_ofNat']
    have : ((n3.toNat % 2 ^ 8 : Nat) : Int) = n3 := by omega
    rw [this]
theorem open_act1 {r : Reach} {b0 : Nat} {v : Value} {dt : DataW H} {p : List MemPlace} {t e b : TypeId} {f0 f1 f2 f3 f4 f5 g0 g1 g2 : Field} (hs : P.underlying t = some (.struct #[f0, f1, f2, f3, f4, f5]))
    (h0 : P.underlying f0.type = some (.int .i64)) (h1 : P.underlying f1.type = some (.int .i64)) (h2 : P.underlying f2.type = some (.int .i64)) (h3 : P.underlying f3.type = some (.int .u8)) (h4 : P.underlying f4.type = some (.slice b)) (h5 : P.underlying f5.type = some (.slice e)) (hb : P.underlying b = some (.int .u8))
    (hse : P.underlying e = some (.struct #[g0, g1, g2])) (k0 : P.underlying g0.type = some (.int .i64)) (k1 : P.underlying g1.type = some .bool) (k2 : P.underlying g2.type = some (.slice b))
    (hc : (P.cellsOf t, P.cellsOf f0.type, P.cellsOf f1.type, P.cellsOf f2.type, P.cellsOf f3.type, P.cellsOf f4.type, P.cellsOf f5.type) = (6, 1, 1, 1, 1, 1, 1)) (of : (f0.offset, f1.offset, f2.offset, f3.offset, f4.offset, f5.offset) = (0, 1, 2, 3, 4, 5))
    (hcs : (P.cellsOf e, P.cellsOf g0.type, P.cellsOf g1.type, P.cellsOf g2.type, P.cellsOf b) = (3, 1, 1, 1, 1)) (og : (g0.offset, g1.offset, g2.offset) = (0, 1, 2)) (hby : P.bytesOf b = 1) (hbe : P.bytesOf e = 40)
    (hv : Value.okWide P w r b0 t v) (hsz : ∀ n ∈ dt.weights P t, n ≤ reachBytes) (h : DataW.Trod enc P w base spare held t v dt p) :
    ∃ (f : Ac) (Ab : Option Addr) (db : Nat) (Ah : Option Addr) (dh : Nat), v = .agg (actCells f Ab db Ah dh) ∧ ActIn w w.heap.size f Ab Ah := by
  obtain ⟨cs, rfl, hz⟩ := okWide_struct hs hv
  obtain ⟨fuel, hf⟩ := h
  obtain ⟨f, Ab, db, Ah, dh, e1, e2⟩ := open_act hs h0 h1 h2 h3 h4 h5 hb hse k0 k1 k2 hc of hcs og hby hbe (fun n hn => hsz n hn) hf
  refine ⟨f, Ab, db, Ah, dh, ?_, e2⟩
  congr 1
  apply Array.toList_inj.1
  simpa [Value.cells] using e1
theorem open_acts {r : Reach} {b0 : Nat} {v : Value} {dt : DataW H} {p : List MemPlace} {ts t e b : TypeId} {f0 f1 f2 f3 f4 f5 g0 g1 g2 : Field} (ht : P.underlying ts = some (.slice t)) (hs : P.underlying t = some (.struct #[f0, f1, f2, f3, f4, f5]))
    (h0 : P.underlying f0.type = some (.int .i64)) (h1 : P.underlying f1.type = some (.int .i64)) (h2 : P.underlying f2.type = some (.int .i64)) (h3 : P.underlying f3.type = some (.int .u8)) (h4 : P.underlying f4.type = some (.slice b)) (h5 : P.underlying f5.type = some (.slice e)) (hb : P.underlying b = some (.int .u8))
    (hse : P.underlying e = some (.struct #[g0, g1, g2])) (k0 : P.underlying g0.type = some (.int .i64)) (k1 : P.underlying g1.type = some .bool) (k2 : P.underlying g2.type = some (.slice b))
    (hc : (P.cellsOf t, P.cellsOf f0.type, P.cellsOf f1.type, P.cellsOf f2.type, P.cellsOf f3.type, P.cellsOf f4.type, P.cellsOf f5.type) = (6, 1, 1, 1, 1, 1, 1)) (of : (f0.offset, f1.offset, f2.offset, f3.offset, f4.offset, f5.offset) = (0, 1, 2, 3, 4, 5))
    (hcs : (P.cellsOf e, P.cellsOf g0.type, P.cellsOf g1.type, P.cellsOf g2.type, P.cellsOf b) = (3, 1, 1, 1, 1)) (og : (g0.offset, g1.offset, g2.offset) = (0, 1, 2)) (hby : P.bytesOf b = 1) (hbe : P.bytesOf e = 40)
    (hv : Value.okWide P w r b0 ts v) (hsz : ∀ n ∈ dt.weights P ts, n ≤ reachBytes) (h : DataW.Trod enc P w base spare held ts v dt p) :
    ∃ (A : Option Addr) (c : Nat) (l : List Ac), v = .slice A l.length c ∧ ActsP w A l ∧ Long dt l.length := by
  obtain ⟨a, len, cap, rfl⟩ := okWide_slice ht hv
  obtain ⟨fuel, hf⟩ := h
  rcases open_slice ht hf with ⟨hcs', hx⟩ | ⟨x, l, c, m, n, D, Pl, hcs', _, hl, hm, hmm, hx, hi⟩
  · simp [Value.cells] at hcs'
    obtain ⟨rfl, rfl, rfl⟩ := hcs'
    simp only [Prod.mk.injEq] at hx
    exact ⟨none, 0, [], rfl, fun i a h => by simp at h, .inl ⟨hx.1, rfl⟩⟩
  · simp [Value.cells] at hcs'
    obtain ⟨rfl, rfl, rfl⟩ := hcs'
    simp only [Prod.mk.injEq] at hx
    have hlm : len ≤ m := by rw [hmm]; split <;> omega
    have hce : P.cellsOf t = 6 := by simp only [Prod.mk.injEq] at hc; exact hc.1
    have hf1 : Fit P ts (.slice ((List.range len).map D) ((List.range (m - len)).map fun j => D (len + j))) := by rw [← hx.1]; exact fun n hn => hsz n hn
    obtain ⟨rows, hrl, hrp⟩ := list_of_lt (n := len) (p := fun i (f : Ac) => ∃ Ab db Ah dh, (∀ k, k < 6 → w.cell? ((x.add (i * 6)).add k) = (actCells f Ab db Ah dh)[k]?) ∧ ActIn w w.heap.size f Ab Ah) (fun i hlt => by
      obtain ⟨cs', q1, q2⟩ := hi i (by omega)
      obtain ⟨f, Ab, db, Ah, dh, e1, e2⟩ := open_act hs h0 h1 h2 h3 h4 h5 hb hse k0 k1 k2 hc of hcs og hby hbe (hf1.elem ht (List.mem_map.2 ⟨i, List.mem_range.2 hlt, rfl⟩)) q2
      rw [hce] at q1
      obtain ⟨_, hlen, hcell⟩ := World.cells?_some q1
      refine ⟨f, Ab, db, Ah, dh, fun k hk => ?_, e2⟩
      have := hcell k (by omega)
      rw [this, e1]
      exact Array.getElem?_toList)
    exact ⟨some x, cap, rows, by rw [hrl], fun i f hf => by
      obtain ⟨Ab, db, Ah, dh, e1, e2⟩ := hrp i f hf
      exact ⟨x, Ab, db, Ah, dh, rfl, e1, e2⟩, .inr ⟨_, _, hx.1, by simp [hrl]⟩⟩
theorem open_geo {r : Reach} {b0 : Nat} {t : TypeId} {f0 f1 f2 f3 : Field} {v : Value} {d : DataW H} {p : List MemPlace} (hs : P.underlying t = some (.struct #[f0, f1, f2, f3]))
    (h0 : P.underlying f0.type = some (.int .i64)) (h1 : P.underlying f1.type = some (.int .i64)) (h2 : P.underlying f2.type = some (.int .i64)) (h3 : P.underlying f3.type = some (.int .i64))
    (hc : P.cellsOf t = 4) (o : (f0.offset, f1.offset, f2.offset, f3.offset) = (0, 1, 2, 3)) (hk : (P.cellsOf f0.type, P.cellsOf f1.type, P.cellsOf f2.type, P.cellsOf f3.type) = (1, 1, 1, 1))
    (hv : Value.okWide P w r b0 t v) (h : DataW.Trod enc P w base spare held t v d p) :
    ∃ (n b q c : Int), v = .agg #[.int .i64 n, .int .i64 b, .int .i64 q, .int .i64 c] := by
  obtain ⟨cs, rfl, hsz⟩ := okWide_struct hs hv
  obtain ⟨fuel, hf⟩ := h
  rw [hc] at hsz
  obtain ⟨c0, c1, c2, c3, rfl⟩ := array4 hsz
  obtain ⟨y0, y1, y2, y3, n, _, _, t0, t1, t2, t3⟩ := trod_struct4 hs hf
  simp only [Prod.mk.injEq] at o hk
  rw [o.1, hk.1] at t0
  rw [o.2.1, hk.2.1] at t1
  rw [o.2.2.1, hk.2.2.1] at t2
  rw [o.2.2.2, hk.2.2.2] at t3
  obtain ⟨n0, e0, _, _⟩ := DataW.trod_int h0 t0
  obtain ⟨n1, e1, _, _⟩ := DataW.trod_int h1 t1
  obtain ⟨n2, e2, _, _⟩ := DataW.trod_int h2 t2
  obtain ⟨n3, e3, _, _⟩ := DataW.trod_int h3 t3
  simp [Value.cells] at e0 e1 e2 e3
  subst e0 e1 e2 e3
  exact ⟨n0, n1, n2, n3, rfl⟩
end
end Go.Proofs.Ytlcdabmclcfagaa
