import Derived.Test.YtlcdabmclcfagaaMRows
set_option linter.unusedVariables false
set_option linter.unusedSimpArgs false
/- Rows of the call's own that are handed on, their values the call's own. -/
namespace Go.Proofs.Ytlcdabmclcfagaa
open Go.RowKit

/-- A value of the call's own, or none. -/
def SpB (w : World) (base : Nat) (v : Value) (x : List UInt8) : Prop := (v = .slice none 0 0 ∧ x = []) ∨ (x ≠ [] ∧ OwnB 5 w base v x)
theorem SpB.below {w w' : World} {base : Nat} {v : Value} {x : List UInt8} (h : SpB w base v x) (hb : Below w.heap.size w w') : SpB w' base v x := h.imp id fun ⟨h1, h2⟩ => ⟨h1, h2.below hb⟩
theorem SpB.far {w w' : World} {base g : Nat} {v : Value} {x : List UInt8} (h : SpB w base v x) (hg : w.grownBy w' (some g)) (hlt : g < base) : SpB w' base v x := h.imp id fun ⟨h1, h2⟩ => ⟨h1, h2.kept hg (.inr fun e => by have := (h2.blk e).1; omega)⟩
theorem SpB.kept {w w' : World} {base : Nat} {v : Value} {x : List UInt8} {row : Option Nat} (h : SpB w base v x) (hv : ValB w row v x) (hg : w.grownBy w' row) : SpB w' base v x := h.imp id fun ⟨h1, h2⟩ => by
  refine ⟨h1, h2.kept hg ?_⟩
  obtain ⟨A, c, e1, hr, l1, l2, l3⟩ := hv
  obtain ⟨A', c', e1', hr', _, _, l3'⟩ := h2.slice
  have hx : 0 < x.length := List.length_pos_iff.2 h1
  obtain ⟨ad, hA, _⟩ := hr (by rw [bv_length]; exact hx)
  right
  rw [e1, hA]
  exact l3 ad hA hx
theorem SpB.valB {w : World} {base : Nat} {v : Value} {x : List UInt8} {row : Option Nat} (h : SpB w base v x) (hr : ∀ k, row = some k → k < base) : ValB w row v x := by
  rcases h with ⟨rfl, rfl⟩ | ⟨h1, h⟩
  · exact ⟨none, 0, rfl, RV.nil _ _, Nat.le_refl _, by decide, fun _ e => by cases e⟩
  · obtain ⟨A, c, hv, hrv, l1, l2, l3⟩ := h.slice
    refine ⟨A, c, hv, hrv, l1, l2, fun ad e1 hn he => ?_⟩
    have h1 := h.blk (l3 ad e1).symm
    have h2 := hr _ he.symm
    omega
theorem SpB.lower {w : World} {base b : Nat} {v : Value} {x : List UInt8} (h : SpB w base v x) (hb : b ≤ base) : SpB w b v x := h.imp id fun ⟨h1, h2⟩ => ⟨h1, h2.lower hb⟩
theorem SpB.nil (w : World) (base : Nat) : SpB w base (.slice none 0 0) [] := .inl ⟨rfl, rfl⟩

section
variable {α : Type} (cell : α → Value → List Value) (val : α → List UInt8) (ok : α → Prop) (sz : Nat)
/-- A row of the call's own that is handed on, each value of the call's own. -/
def OwnG (w : World) (base : Nat) (v : Value) (n : Nat) (ps : List (α × Value)) : Prop :=
  ps.length = n ∧ ∃ A c, v = .slice A n c ∧ n ≤ c ∧ c ≤ maxLen ∧ (∀ ad, A = some ad → base ≤ ad.block) ∧ (∀ p ∈ ps, ok p.1 ∧ SpB w base p.2 (val p.1) ∧ ValB w v.ownBlock p.2 (val p.1)) ∧
    ∀ i p, ps[i]? = some p → ∃ ad, A = some ad ∧ ∀ k u, (cell p.1 p.2)[k]? = some u → w.cell? ((ad.add (i * sz)).add k) = some u
end
section
variable {α : Type} {cell : α → Value → List Value} {val : α → List UInt8} {ok : α → Prop} {sz : Nat}
theorem OwnG.nil (w : World) (base : Nat) : OwnG cell val ok sz w base (.slice none 0 0) 0 [] := ⟨rfl, none, 0, rfl, Nat.le_refl _, by decide, fun _ h => (by cases h), fun _ h => (by cases h), fun i p h => by simp at h⟩
theorem OwnG.lower {w : World} {base b : Nat} {v : Value} {n : Nat} {ps : List (α × Value)} (h : OwnG cell val ok sz w base v n ps) (hb : b ≤ base) : OwnG cell val ok sz w b v n ps := by
  obtain ⟨h1, A, c, h2, h3, h4, h5, h6, h7⟩ := h
  exact ⟨h1, A, c, h2, h3, h4, fun ad e => Nat.le_trans hb (h5 ad e), fun p hp => ⟨(h6 p hp).1, (h6 p hp).2.1.lower hb, (h6 p hp).2.2⟩, h7⟩
theorem OwnG.below {w w' : World} {base : Nat} {v : Value} {n : Nat} {ps : List (α × Value)} (h : OwnG cell val ok sz w base v n ps) (hb : Below w.heap.size w w') : OwnG cell val ok sz w' base v n ps := by
  obtain ⟨h1, A, c, h2, h3, h4, h5, h6, h7⟩ := h
  refine ⟨h1, A, c, h2, h3, h4, h5, fun p hp => ⟨(h6 p hp).1, (h6 p hp).2.1.below hb, (h6 p hp).2.2.below hb⟩, fun i p hp => ?_⟩
  obtain ⟨ad, hA, hc⟩ := h7 i p hp
  refine ⟨ad, hA, fun k u hu => ?_⟩
  have h8 := hc k u hu
  exact (World.cell?_of_block (hb.block _ (World.block_lt_of_cell? w _ h8))).trans h8
theorem OwnG.listIn {w : World} {base : Nat} {v : Value} {n : Nat} {ps : List (α × Value)} (h : OwnG cell val ok sz w base v n ps) : ∃ A c, v = .slice A n c ∧ ListIn cell val ok sz w A n (ps.map (·.1)) ∧ n ≤ c ∧ c ≤ maxLen := by
  obtain ⟨h1, A, c, h2, h3, h4, h5, h6, h7⟩ := h
  refine ⟨A, c, h2, ⟨by rw [List.length_map, h1], fun i a ha => ?_⟩, h3, h4⟩
  rw [List.getElem?_map] at ha
  obtain ⟨p, hpi, rfl⟩ := Option.map_eq_some_iff.1 ha
  obtain ⟨ad, hA, hc⟩ := h7 i p hpi
  have hp := h6 p (List.mem_of_getElem? hpi)
  exact ⟨hp.1, ad, p.2, hA, hp.2.2.none_, hc⟩
theorem OwnPs.handed {e : TypeId} {w : World} {base : Nat} {v : Value} {n : Nat} {ps : List (α × Value)} (hsz : ∀ a v, (cell a v).length = sz) (h : OwnPs cell val ok sz e w base v n ps) (hv : ∀ p ∈ ps, SpB w base p.2 (val p.1)) (h0 : 0 < n) :
    ∃ g c, v = .slice (some ⟨g, 0, none⟩) n c ∧ n ≤ c ∧ c ≤ maxLen ∧ ∀ c', n ≤ c' → c' ≤ maxLen → OwnG cell val ok sz w base (.slice (some ⟨g, 0, none⟩) n c') n ps := by
  obtain ⟨hn, hown, hp⟩ := h
  rcases hown.2 with ⟨hv', h0'⟩ | ⟨g, cap, cur, hv', hb, hg, hnc, hcm, hcs, htake⟩
  · have := hown.1
    omega
  · refine ⟨g, cap, hv', hnc, hcm, fun c' hc1 hc2 => ⟨hn, _, c', rfl, hc1, hc2, fun ad e => (by injection e with e; subst e; exact hb), fun p hpm => ⟨(hp p hpm).1, hv p hpm, ?_⟩, fun i p hpi => ⟨_, rfl, fun k u hu => ?_⟩⟩⟩
    · have := (hp p hpm).2
      rw [hv'] at this
      exact this
    · have hk : k < sz := by rw [← hsz p.1 p.2]; exact (List.getElem?_eq_some_iff.1 hu).1
      rw [add_add]
      refine hown.cells (g := g) (by rw [hv']; rfl) _ _ ?_
      rw [flat_get (f := fun p : α × Value => cell p.1 p.2) (fun p => hsz p.1 p.2) k hk, hpi]
      exact hu
end
end Go.Proofs.Ytlcdabmclcfagaa
