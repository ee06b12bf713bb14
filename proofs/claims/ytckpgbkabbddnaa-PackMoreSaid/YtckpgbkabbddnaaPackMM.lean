import Derived.Test.YtckpgbkabbddnaaMPages
set_option linter.unusedVariables false
set_option linter.unusedSimpArgs false
/- Layer 13, plain: the pages of fewer facts. -/
namespace Go.Proofs.Ytckpgbkabbddnaa
open Go.RowKit

theorem cutsGo_pre (R : Nat) : ∀ (l : List Fct) (k i fr us : Nat), cutsGo R (l.take k) i fr us <+: cutsGo R l i fr us
  | [], k, i, fr, us => by rw [List.take_nil]; exact List.prefix_refl _
  | f :: l, 0, i, fr, us => by rw [List.take_zero, cutsGo]; exact List.nil_prefix
  | f :: l, k + 1, i, fr, us => by
    rw [List.take_succ_cons, cutsGo, cutsGo]
    split
    · exact (List.prefix_cons_inj _).2 (cutsGo_pre R l k _ _ _)
    · exact cutsGo_pre R l k _ _ _
theorem pre_get {α : Type} {a b : List α} (h : a <+: b) {j : Nat} (hj : j < a.length) : a[j]? = b[j]? := by
  obtain ⟨c, rfl⟩ := h
  rw [List.getElem?_append_left hj]
theorem cutsS_take {s : Int} {l : List Fct} (h : (cutsS s l).2 = 0) (k : Nat) : (cutsS s (l.take k)).2 = 0 ∧ (cutsS s (l.take k)).1 <+: (cutsS s l).1 := by
  obtain ⟨h1, h2, h3, h4⟩ := cutsS_ok h
  have hg : goodL (l.take k) := ⟨fun f hf => h2.1 f (List.mem_of_mem_take hf), ordB_take h2.2 k⟩
  have hl : longB (s.toNat - 6) (l.take k) = false := by
    unfold longB
    rw [List.any_eq_false]
    intro f hf
    have := h3 f (List.mem_of_mem_take hf)
    simp
    omega
  have : cutsS s (l.take k) = (cutsGo (s.toNat - 6) (l.take k) 0 0 0, 0) := by
    unfold cutsS
    rw [if_neg (by omega), if_neg (fun h => h hg), if_neg (by rw [hl]; decide)]
  rw [this, h4]
  exact ⟨rfl, cutsGo_pre _ l k 0 0 0⟩
/-- Pages ahead of the last one of fewer facts. -/
theorem pages_take {s : Int} {l : List Fct} (h : (cutsS s l).2 = 0) (k : Nat) : (pagesS s (l.take k)).2 = 0 ∧ (pagesS s (l.take k)).1.length ≤ (pagesS s l).1.length ∧
    ∀ i, i + 1 < (pagesS s (l.take k)).1.length → (pagesS s (l.take k)).1[i]? = (pagesS s l).1[i]? := by
  obtain ⟨h1, h2⟩ := cutsS_take h k
  have e1 : pagesS s l = ((partsS s l).map (pageOf s), 0) := if_neg (fun hh => hh h)
  have e2 : pagesS s (l.take k) = ((partsS s (l.take k)).map (pageOf s), 0) := if_neg (fun hh => hh h1)
  have l1 : (partsS s l).length = (cutsS s l).1.length := by unfold partsS; rw [partsC_len]
  have l2 : (partsS s (l.take k)).length = (cutsS s (l.take k)).1.length := by unfold partsS; rw [partsC_len]
  have hle := h2.length_le
  rw [e1, e2]
  refine ⟨rfl, by simp only [List.length_map]; omega, fun i hi => ?_⟩
  simp only [List.length_map] at hi ⊢
  have hg := fun j (hj : j < (cutsS s (l.take k)).1.length) => pre_get h2 hj
  obtain ⟨p, hp⟩ : ∃ p, (partsS s (l.take k))[i]? = some p := ⟨_, List.getElem?_eq_getElem (by omega)⟩
  obtain ⟨q, hq⟩ : ∃ q, (partsS s l)[i]? = some q := ⟨_, List.getElem?_eq_getElem (by omega)⟩
  obtain ⟨x, a1, a2, a3, a4⟩ := cutsS_at h1 i p hp
  obtain ⟨y, b1, b2, b3, b4⟩ := cutsS_at h i q hq
  have hxy : x = y := by
    have := hg i (by omega)
    rw [a1, b1] at this
    injection this
  have hbd : (cutsS s (l.take k)).1.getD (i + 1) (l.take k).length = (cutsS s l).1.getD (i + 1) l.length := by
    have := hg (i + 1) (by omega)
    rw [List.getElem?_eq_getElem (by omega)] at this
    rw [List.getD_eq_getElem?_getD, List.getD_eq_getElem?_getD, ← this, List.getElem?_eq_getElem (by omega)]
    rfl
  have hlt := (a4 (by omega)).1
  rw [hbd] at a3 hlt
  rw [List.getElem?_map, List.getElem?_map, hp, hq, a3, b3, hxy]
  have : part (l.take k) y ((cutsS s l).1.getD (i + 1) l.length) = part l y ((cutsS s l).1.getD (i + 1) l.length) := by
    unfold part
    rw [List.take_take, Nat.min_eq_left (by rw [List.length_take] at hlt; omega)]
  rw [this]
end Go.Proofs.Ytckpgbkabbddnaa
