import Derived.ProofKit
import Derived.SizedLaws
import Derived.Deep.Slices
import Derived.Test.YtlcdabmclcfagaaMBase
set_option linter.unusedVariables false
set_option linter.unusedSimpArgs false
/- Arguments that came in, opened: slices of bytes, of whole numbers, of rows of bytes. -/
namespace Go.Proofs.Ytlcdabmclcfagaa
open Go.ChangeShapes Go.WideShapes Go.ChangeAt Go.RowKit Go.Deep

/-- What a slice's reading tells of its length. -/
def Long {H : Type} (d : DataW H) (n : Nat) : Prop := (d = .nil ∧ n = 0) ∨ ∃ el sp, d = .slice el sp ∧ el.length = n

section
variable {H : Type} {enc : TypeId × Value → H} {P : Program} {w : World} {base : Nat} {spare : Nat → Bool} {held : Bool}

theorem reach_slice {ts : List TypeId} {ds : List (DataW H)} (h : (DataW.weightsEach P ts ds).all (· ≤ reachBytes) = true) {j : Nat} {t e : TypeId} {d : DataW H} {n : Nat} (ht : ts[j]? = some t) (hd : ds[j]? = some d) (hu : P.underlying t = some (.slice e)) (hl : Long d n) :
    n * P.bytesOf e ≤ 140737488351232 := by
  rcases hl with ⟨rfl, rfl⟩ | ⟨el, sp, rfl, rfl⟩
  · simp
  · have h1 := sized_slice h ht hd hu
    have h2 : el.length * P.bytesOf e ≤ (el.length + sp.length) * P.bytesOf e := Nat.mul_le_mul_right _ (by omega)
    have h3 : reachBytes = 140737488351232 := by decide
    omega

theorem open_nums {r : Reach} {b0 : Nat} {t e : TypeId} {k : IntKind} {v : Value} {d : DataW H} {p : List MemPlace} (ht : P.underlying t = some (.slice e)) (he : P.underlying e = some (.int k)) (hc : P.cellsOf e = 1)
    (hv : Value.okWide P w r b0 t v) (h : DataW.Trod enc P w base spare held t v d p) :
    ∃ (A : Option Addr) (c : Nat) (zs : List Int), v = .slice A zs.length c ∧ RV w A (zs.map (Value.int k)) ∧ zs.length ≤ c ∧ c ≤ maxLen ∧ (∀ n ∈ zs, (Lit.int k n).wf = true) ∧ Long d zs.length := by
  obtain ⟨a, len, cap, rfl⟩ := okWide_slice ht hv
  obtain ⟨fuel, hf⟩ := h
  rcases open_ints ht he hc hf with ⟨hcs, hx⟩ | ⟨x, l, c, zs, hcs, _, hl, hm, hz, hx, hcell, hwz⟩
  · simp [Value.cells] at hcs
    obtain ⟨rfl, rfl, rfl⟩ := hcs
    simp only [Prod.mk.injEq] at hx
    exact ⟨none, 0, [], rfl, RV.nil _ _, Nat.le_refl _, (by decide), (fun _ h => by cases h), .inl ⟨hx.1, rfl⟩⟩
  · simp [Value.cells] at hcs
    obtain ⟨rfl, rfl, rfl⟩ := hcs
    simp only [Prod.mk.injEq] at hx
    have hlen : len ≤ zs.length := by rw [hz]; split <;> omega
    have htl : (zs.take len).length = len := by rw [List.length_take]; omega
    refine ⟨some x, cap, zs.take len, by rw [htl], fun _ => ⟨x, rfl, fun j u hu => ?_⟩, by omega, hm, fun n hn => hwz n (List.mem_of_mem_take hn), .inr ⟨_, _, hx.1, ?_⟩⟩
    · rw [List.getElem?_map, List.getElem?_take] at hu
      split at hu
      · rename_i hj
        have hjz : j < zs.length := by omega
        rw [List.getElem?_eq_getElem hjz] at hu
        injection hu with hu
        rw [hcell j hjz, ← hu]
        simp [List.getD, List.getElem?_eq_getElem hjz]
      · cases hu
    · simp [lits]

theorem bytes_of_wf : ∀ (zs : List Int), (∀ n ∈ zs, (Lit.int .u8 n).wf = true) → ∃ xs : List UInt8, zs.map (Value.int .u8) = bv xs ∧ zs.length = xs.length
  | [], _ => ⟨[], rfl, rfl⟩
  | n :: zs, h => by
    obtain ⟨xs, hx, hl⟩ := bytes_of_wf zs (fun m hm => h m (by simp [hm]))
    have hn := h n (by simp)
    simp [Lit.wf, IntKind.min, IntKind.max, IntKind.signed, IntKind.bits] at hn
    refine ⟨UInt8.ofNat n.toNat :: xs, ?_, by simp [hl]⟩
    simp only [List.map_cons, hx, bv, UInt8.toNat_ofNat']
    congr 2
    omega

theorem open_bytes {r : Reach} {b0 : Nat} {t e : TypeId} {v : Value} {d : DataW H} {p : List MemPlace} (ht : P.underlying t = some (.slice e)) (he : P.underlying e = some (.int .u8)) (hc : P.cellsOf e = 1)
    (hv : Value.okWide P w r b0 t v) (h : DataW.Trod enc P w base spare held t v d p) :
    ∃ (A : Option Addr) (c : Nat) (xs : List UInt8), v = .slice A xs.length c ∧ RV w A (bv xs) ∧ xs.length ≤ c ∧ c ≤ maxLen ∧ Long d xs.length := by
  obtain ⟨A, c, zs, rfl, hr, h1, h2, hw, hl⟩ := open_nums ht he hc hv h
  obtain ⟨xs, hx, hlen⟩ := bytes_of_wf zs hw
  rw [hx] at hr
  rw [hlen] at h1 hl ⊢
  exact ⟨A, c, xs, rfl, hr, h1, h2, hl⟩
end
end Go.Proofs.Ytlcdabmclcfagaa

/- A slice of slices of bytes that came in, opened. -/
namespace Go.Proofs.Ytlcdabmclcfagaa
open Go.ChangeShapes Go.WideShapes Go.ChangeAt Go.RowKit Go.Deep

/-- One row: its value, its bytes. -/
def RowAt (w : World) (r : Value × List UInt8) : Prop := ∃ A c, r.1 = .slice A r.2.length c ∧ RV w A (bv r.2) ∧ r.2.length ≤ c ∧ c ≤ maxLen
theorem RowAt.below {w w' : World} {r : Value × List UInt8} (h : RowAt w r) (hb : Below w.heap.size w w') : RowAt w' r := by
  obtain ⟨A, c, h1, h2, h3, h4⟩ := h
  exact ⟨A, c, h1, h2.below hb, h3, h4⟩

section
variable {H : Type} {enc : TypeId × Value → H} {P : Program} {w : World} {base : Nat} {spare : Nat → Bool} {held : Bool}

theorem list_of_lt {α : Type} {n : Nat} {p : Nat → α → Prop} (h : ∀ i, i < n → ∃ x, p i x) : ∃ l : List α, l.length = n ∧ ∀ i x, l[i]? = some x → p i x := by
  induction n with
  | zero => exact ⟨[], rfl, fun i x hx => by simp at hx⟩
  | succ n ih =>
    obtain ⟨l, hl, hp⟩ := ih (fun i hi => h i (by omega))
    obtain ⟨x, hx⟩ := h n (by omega)
    refine ⟨l ++ [x], by simp [hl], fun i y hy => ?_⟩
    by_cases hi : i < l.length
    · rw [List.getElem?_append_left hi] at hy
      exact hp i y hy
    · rw [List.getElem?_append_right (by omega)] at hy
      have : i - l.length = 0 := by
        have := (List.getElem?_eq_some_iff.1 hy).1
        simp at this
        omega
      rw [this] at hy
      simp at hy
      subst hy
      have : i = n := by omega
      rw [this]
      exact hx

/-- Bytes out of a reading alone. -/
theorem bytes_in {t e : TypeId} {v : Value} {n : Nat} {x : DataW H × List MemPlace} (ht : P.underlying t = some (.slice e)) (he : P.underlying e = some (.int .u8)) (hc : P.cellsOf e = 1)
    (h : DataW.trod enc P w base spare held n t [v] = some x) : ∃ xs : List UInt8, RowAt w (v, xs) := by
  rcases open_ints ht he hc h with ⟨hcs, hx⟩ | ⟨a, l, c, zs, hcs, _, hl, hm, hz, hx, hcell, hwz⟩
  · injection hcs with hcs
    exact ⟨[], none, 0, hcs, RV.nil _ _, Nat.le_refl _, by decide⟩
  · injection hcs with hcs
    have hlen : l ≤ zs.length := by rw [hz]; split <;> omega
    obtain ⟨xs, hxs, hxl⟩ := bytes_of_wf (zs.take l) (fun n hn => hwz n (List.mem_of_mem_take hn))
    have htl : (zs.take l).length = l := by rw [List.length_take]; omega
    refine ⟨xs, some a, c, by rw [hcs, ← hxl, htl], fun _ => ⟨a, rfl, fun j u hu => ?_⟩, show xs.length ≤ c by omega, hm⟩
    rw [← hxs, List.getElem?_map, List.getElem?_take] at hu
    split at hu
    · rename_i hj
      have hjz : j < zs.length := by omega
      rw [List.getElem?_eq_getElem hjz] at hu
      injection hu with hu
      rw [hcell j hjz, ← hu]
      simp [List.getD, List.getElem?_eq_getElem hjz]
    · cases hu

theorem open_rows {r : Reach} {b0 : Nat} {t e e' : TypeId} {v : Value} {d : DataW H} {p : List MemPlace} (ht : P.underlying t = some (.slice e)) (he : P.underlying e = some (.slice e')) (he' : P.underlying e' = some (.int .u8)) (hc : P.cellsOf e = 1) (hc' : P.cellsOf e' = 1)
    (hv : Value.okWide P w r b0 t v) (h : DataW.Trod enc P w base spare held t v d p) :
    ∃ (A : Option Addr) (c : Nat) (rows : List (Value × List UInt8)), v = .slice A rows.length c ∧ RV w A (rows.map (·.1)) ∧ rows.length ≤ c ∧ c ≤ maxLen ∧ (∀ r ∈ rows, RowAt w r) ∧ Long d rows.length := by
  obtain ⟨a, len, cap, rfl⟩ := okWide_slice ht hv
  obtain ⟨fuel, hf⟩ := h
  rcases open_slice1 ht hc hf with ⟨hcs, hx⟩ | ⟨x, l, c, m, n, V, D, Pl, hcs, _, hl, hm, hmm, hx, hi⟩
  · simp [Value.cells] at hcs
    obtain ⟨rfl, rfl, rfl⟩ := hcs
    simp only [Prod.mk.injEq] at hx
    exact ⟨none, 0, [], rfl, RV.nil _ _, Nat.le_refl _, (by decide), (fun _ h => by cases h), .inl ⟨hx.1, rfl⟩⟩
  · simp [Value.cells] at hcs
    obtain ⟨rfl, rfl, rfl⟩ := hcs
    simp only [Prod.mk.injEq] at hx
    have hlm : len ≤ m := by rw [hmm]; split <;> omega
    obtain ⟨rows, hrl, hrp⟩ := list_of_lt (n := len) (p := fun i r => w.cell? (x.add i) = some r.1 ∧ RowAt w r) (fun i hlt => by
      obtain ⟨h1, h2⟩ := hi i (by omega)
      obtain ⟨xs, hxs⟩ := bytes_in he he' hc' h2
      exact ⟨(V i, xs), h1, hxs⟩)
    refine ⟨some x, cap, rows, by rw [hrl], fun _ => ⟨x, rfl, fun j u hu => ?_⟩, by omega, hm, fun r hr => ?_, .inr ⟨_, _, hx.1, by simp [hrl]⟩⟩
    · rw [List.getElem?_map] at hu
      obtain ⟨r, hr, rfl⟩ := Option.map_eq_some_iff.1 hu
      exact (hrp j r hr).1
    · obtain ⟨j, hj⟩ := List.mem_iff_getElem?.1 hr
      exact (hrp j r hj).2
end
end Go.Proofs.Ytlcdabmclcfagaa
