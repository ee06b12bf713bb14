import Derived.Test.YtlioclicopakbaaDShSM
import Derived.Test.YtlioclicopakbaaShPM
import Derived.Test.YtlioclicopakbaaLeafSM
import Derived.Test.YtlioclicopakbaaMBase
set_option linter.unusedVariables false
set_option linter.unusedSimpArgs false
/- Layer 16, plain: each leaf fits into a page. -/
namespace Go.Proofs.Ytlioclicopakbaa
open Go.RowKit

theorem fstGo_fit {least : Nat} : ∀ (its : List (Ky × Nat)) (m left : Nat), m ≤ 255 → fstGo least its m left ≤ 255 ∧ ((its.take (fstGo least its m left - m)).map (·.2)).sum ≤ left
  | [], m, left, h => by simp [fstGo, h]
  | (k, c) :: r, m, left, h => by
    rw [fstGo]
    split
    · rename_i hc
      have hb := fstGo_bd (least := least) r (m + 1) (left - c)
      have ih := fstGo_fit (least := least) r (m + 1) (left - c) (by omega)
      split
      · rw [show m + 1 - m = 0 + 1 by omega, List.take_succ_cons]
        simp
        omega
      · rw [show fstGo least r (m + 1) (left - c) - m = (fstGo least r (m + 1) (left - c) - (m + 1)) + 1 by omega, List.take_succ_cons]
        simp only [List.map_cons, List.sum_cons]
        omega
    · simp [h]
/-- Things that are cut: the first node, what is cut behind it. -/
theorem shGo_head {R least : Nat} {its : List (Ky × Nat)} {c : Nat} {t : List Nat} (hne : its ≠ []) (h : shGo R least its 0 R = some (c :: t)) :
    1 ≤ c ∧ c ≤ 255 ∧ c ≤ its.length ∧ ((its.take c).map (·.2)).sum ≤ R ∧ shGo R least (its.drop c) 0 R = some t := by
  have hall := shGo_le its 0 R _ h
  have hf := shGo_fst (R := R) (least := least) its 0 R hall (by decide) (fun _ => ⟨rfl, hne⟩)
  rw [h, Nat.sub_zero] at hf
  have hbd := fstGo_bd (least := least) its 0 R
  have hfit := fstGo_fit (least := least) its 0 R (by decide)
  have hpos := shGo_pos its 0 R _ (fun _ => rfl) h c (by simp)
  rw [Nat.sub_zero] at hfit
  obtain ⟨t', h1, h2⟩ := Option.map_eq_some_iff.1 hf.symm
  injection h2 with h3 h4
  rw [h3] at h1 hbd hfit
  rw [h4] at h1
  exact ⟨hpos, hfit.1, by omega, hfit.2, h1⟩
theorem ordB_keys (l : List Fct) : ordB (l.map fun f => ⟨f.key, []⟩) = ordB l := by
  rw [Bool.eq_iff_iff, ordB_iff, ordB_iff]
  constructor
  · intro h i a b ha hb
    exact h i ⟨a.key, []⟩ ⟨b.key, []⟩ (by rw [List.getElem?_map, ha]; rfl) (by rw [List.getElem?_map, hb]; rfl)
  · intro h i a b ha hb
    rw [List.getElem?_map] at ha hb
    obtain ⟨a', ha', rfl⟩ := Option.map_eq_some_iff.1 ha
    obtain ⟨b', hb', rfl⟩ := Option.map_eq_some_iff.1 hb
    exact h i a' b' ha' hb'
theorem goodKs_facts {l : List Fct} (h : goodKs (l.map (·.key))) : (∀ f ∈ l, mayK f.key) ∧ ordB l = true := by
  obtain ⟨h1, h2⟩ := h
  refine ⟨fun f hf => h1 _ (List.mem_map.2 ⟨f, hf, rfl⟩), ?_⟩
  rw [List.map_map] at h2
  rw [← ordB_keys]
  exact h2
theorem ordB_seg {l : List Fct} (h : ordB l = true) (a b : Nat) : ordB ((l.take b).drop a) = true := by
  rw [ordB_iff] at h ⊢
  intro i x y hx hy
  rw [List.getElem?_drop, List.getElem?_take] at hx hy
  split at hx
  · split at hy
    · exact h (a + i) x y hx (by rw [← hy]; congr 1)
    · cases hy
  · cases hx
def badF (f : Fct) : Bool := decide (f.val.length < 1) || decide (255 < f.val.length)
theorem leafB_len {l : List Fct} (h : ∀ f ∈ l, fitF f) : (l.flatMap fctB).length = (l.map lenS).sum := by
  induction l with
  | nil => rfl
  | cons f l ih =>
    have h1 := ih fun x hx => h x (by simp [hx])
    have h2 := h f (by simp)
    rw [List.flatMap_cons, List.length_append, h1, List.map_cons, List.sum_cons]
    unfold fctB lenS
    rw [if_pos h2.1]
    simp only [List.length_append, List.length_cons]
    omega
/-- A leaf: it is put, or one of its values may not be. -/
theorem leaf_put {s : Int} {l : List Fct} {o c : Nat} {t : List Nat} (hs : 128 ≤ s ∧ s ≤ 256) (hg : goodKs (l.map (·.key))) (ho : o < l.length) (h : shGo (s.toNat - 6) 1 ((itsL l).drop o) 0 (s.toNat - 6) = some (c :: t)) :
    1 ≤ c ∧ c ≤ 255 ∧ o + c ≤ l.length ∧ shGo (s.toNat - 6) 1 ((itsL l).drop (o + c)) 0 (s.toNat - 6) = some t ∧
      ((putLeafS s ((l.take (o + c)).drop o)).2 ≠ 0 → ((l.take (o + c)).drop o).any badF = true) := by
  have hil : (itsL l).length = l.length := by unfold itsL; rw [List.length_map]
  have hne : (itsL l).drop o ≠ [] := fun e => by
    have := congrArg List.length e
    rw [List.length_drop, hil] at this
    simp at this
    omega
  obtain ⟨h1, h2, h3, h4, h5⟩ := shGo_head hne h
  rw [List.length_drop, hil] at h3
  rw [List.drop_drop] at h5
  refine ⟨h1, h2, by omega, h5, fun hcode => ?_⟩
  apply Classical.byContradiction
  intro hbad
  have hnb : ∀ f ∈ (l.take (o + c)).drop o, badF f = false := by
    intro f hf
    have : ((l.take (o + c)).drop o).any badF = false := by simpa using hbad
    rw [List.any_eq_false] at this
    simpa using this f hf
  obtain ⟨g1, g2⟩ := goodKs_facts hg
  have hmem : ∀ f ∈ (l.take (o + c)).drop o, f ∈ l := fun f hf => List.mem_of_mem_take (List.mem_of_mem_drop hf)
  have hfit : ∀ f ∈ (l.take (o + c)).drop o, fitF f := by
    intro f hf
    have hb := hnb f hf
    unfold badF at hb
    simp only [Bool.or_eq_false_iff, decide_eq_false_iff_not] at hb
    exact ⟨g1 f (hmem f hf), by omega, by omega⟩
  have hlen : ((l.take (o + c)).drop o).length = c := by rw [List.length_drop, List.length_take]; omega
  have hok : leafOk ((l.take (o + c)).drop o) := ⟨by omega, by omega, hfit, ordB_seg g2 o (o + c)⟩
  have hsum : (((l.take (o + c)).drop o).map lenS).sum ≤ s.toNat - 6 := by
    have e : (((itsL l).drop o).take c).map (·.2) = ((l.take (o + c)).drop o).map lenS := by
      unfold itsL
      rw [← List.map_drop, ← List.map_take, List.map_map, List.drop_take, Nat.add_sub_cancel_left]
      rfl
    rw [← e]
    exact h4
  have hbl : (leafB ((l.take (o + c)).drop o)).length ≤ s.toNat - 5 := by
    unfold leafB
    rw [List.length_cons, leafB_len hfit]
    omega
  apply hcode
  unfold putLeafS
  rw [if_pos hok]
  have := putPageS_mk (s := s.toNat) (kind := 4) (body := leafB ((l.take (o + c)).drop o)) (by unfold isPage; omega) (by decide) (by decide) hbl
  rw [show ((s.toNat : Nat) : Int) = s by omega] at this
  rw [this]
theorem putLeafS_code (s : Int) (l : List Fct) : (putLeafS s l).2 ≤ 3 := by
  unfold putLeafS
  split
  · exact putPageS_code _ _ _
  · simp
theorem seg_step {l : List Fct} {o q : Nat} {f : Fct} (h : o ≤ q) (hf : l[q]? = some f) : (l.take (q + 1)).drop o = (l.take q).drop o ++ [f] := by
  have hl := (List.getElem?_eq_some_iff.1 hf).1
  rw [List.take_add_one, hf, List.drop_append_of_le_length (by rw [List.length_take]; omega)]
  rfl
end Go.Proofs.Ytlioclicopakbaa
