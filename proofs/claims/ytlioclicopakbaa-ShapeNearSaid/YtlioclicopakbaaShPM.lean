import Derived.Test.YtlioclicopakbaaShLvM
set_option linter.unusedVariables false
set_option linter.unusedSimpArgs false
/- Layer 16, plain: what nodes there are. -/
namespace Go.Proofs.Ytlioclicopakbaa
open Go.RowKit

theorem shGo_some {R least : Nat} : ∀ (its : List (Ky × Nat)) (many left : Nat), (∀ it ∈ its, it.2 ≤ R) → ∃ t, shGo R least its many left = some t
  | [], many, left, _ => ⟨_, rfl⟩
  | (k, n) :: r, many, left, h => by
    have hn := h (k, n) (by simp)
    have ih := fun m l => shGo_some (least := least) r m l fun it hi => h it (by simp [hi])
    rw [shGo, if_neg (by dsimp only at hn; omega)]
    split
    · split
      · obtain ⟨t, ht⟩ := ih 0 R
        rw [ht]; exact ⟨_, rfl⟩
      · obtain ⟨t, ht⟩ := ih 1 (R - n)
        rw [ht]; exact ⟨_, rfl⟩
    · split
      · obtain ⟨t, ht⟩ := ih 0 R
        rw [ht]; exact ⟨_, rfl⟩
      · exact ih _ _
theorem shGo_le {R least : Nat} : ∀ (its : List (Ky × Nat)) (many left : Nat) (t : List Nat), shGo R least its many left = some t → ∀ it ∈ its, it.2 ≤ R
  | [], _, _, _, _ => fun _ h => by cases h
  | (k, n) :: r, many, left, t, h => by
    rw [shGo] at h
    split at h
    · cases h
    · rename_i hn
      have key : ∃ m l t, shGo R least r m l = some t := by
        split at h
        · split at h
          · obtain ⟨t', h', _⟩ := Option.map_eq_some_iff.1 h; exact ⟨_, _, _, h'⟩
          · obtain ⟨t', h', _⟩ := Option.map_eq_some_iff.1 h; exact ⟨_, _, _, h'⟩
        · split at h
          · obtain ⟨t', h', _⟩ := Option.map_eq_some_iff.1 h; exact ⟨_, _, _, h'⟩
          · exact ⟨_, _, _, h⟩
      obtain ⟨m, l, t', h'⟩ := key
      intro it hi
      rcases List.mem_cons.1 hi with rfl | hi
      · show n ≤ R; omega
      · exact shGo_le r m l t' h' it hi
theorem shGo_sum {R least : Nat} : ∀ (its : List (Ky × Nat)) (many left : Nat) (t : List Nat), shGo R least its many left = some t → t.sum = many + its.length
  | [], many, left, t, h => by
    rw [shGo] at h
    injection h with h
    rw [← h]
    split
    · simp
    · simp; omega
  | (k, n) :: r, many, left, t, h => by
    rw [shGo] at h
    split at h
    · cases h
    · split at h
      · split at h
        · obtain ⟨t', h', rfl⟩ := Option.map_eq_some_iff.1 h
          have := shGo_sum r _ _ _ h'
          simp only [List.sum_cons, List.length_cons]; omega
        · obtain ⟨t', h', rfl⟩ := Option.map_eq_some_iff.1 h
          have := shGo_sum r _ _ _ h'
          simp only [List.sum_cons, List.length_cons]; omega
      · split at h
        · obtain ⟨t', h', rfl⟩ := Option.map_eq_some_iff.1 h
          have := shGo_sum r _ _ _ h'
          simp only [List.sum_cons, List.length_cons]; omega
        · have := shGo_sum r _ _ _ h
          simp only [List.length_cons]; omega
theorem shGo_pos {R least : Nat} : ∀ (its : List (Ky × Nat)) (many left : Nat) (t : List Nat), (many = 0 → left = R) → shGo R least its many left = some t → ∀ c ∈ t, 1 ≤ c
  | [], many, left, t, _, h => by
    rw [shGo] at h
    injection h with h
    rw [← h]
    intro c hc
    split at hc
    · simp at hc; omega
    · cases hc
  | (k, n) :: r, many, left, t, h0, h => by
    rw [shGo] at h
    split at h
    · cases h
    · split at h
      · rename_i hf
        have hm : 1 ≤ many := by
          rcases hf with hf | hf
          · apply Nat.pos_of_ne_zero
            intro hm
            have := h0 hm
            omega
          · omega
        split at h
        · obtain ⟨t', h', rfl⟩ := Option.map_eq_some_iff.1 h
          have := shGo_pos r 0 R t' (fun _ => rfl) h'
          intro c hc
          rcases List.mem_cons.1 hc with rfl | hc
          · exact hm
          · rcases List.mem_cons.1 hc with rfl | hc
            · exact Nat.le_refl _
            · exact this c hc
        · obtain ⟨t', h', rfl⟩ := Option.map_eq_some_iff.1 h
          have := shGo_pos r 1 (R - n) t' (fun h => by omega) h'
          intro c hc
          rcases List.mem_cons.1 hc with rfl | hc
          · exact hm
          · exact this c hc
      · split at h
        · obtain ⟨t', h', rfl⟩ := Option.map_eq_some_iff.1 h
          have := shGo_pos r 0 R t' (fun _ => rfl) h'
          intro c hc
          rcases List.mem_cons.1 hc with rfl | hc
          · omega
          · exact this c hc
        · exact shGo_pos r (many + 1) (left - n) t (fun h => by omega) h
/-- Of nodes above all but the last one have two children at least. -/
theorem shGo_two {R : Nat} (hR : 122 ≤ R) : ∀ (its : List (Ky × Nat)) (many left : Nat) (t : List Nat), (∀ it ∈ its, it.2 ≤ 18) → R ≤ left + 18 * many → shGo R 2 its many left = some t → ∀ i c, i + 1 < t.length → t[i]? = some c → 2 ≤ c
  | [], many, left, t, _, _, h => by
    rw [shGo] at h
    injection h with h
    intro i c hi _
    rw [← h] at hi
    split at hi <;> simp at hi
  | (k, n) :: r, many, left, t, h18, hl, h => by
    have hn := h18 (k, n) (by simp)
    have hr : ∀ it ∈ r, it.2 ≤ 18 := fun it hi => h18 it (by simp [hi])
    dsimp only at hn
    rw [shGo] at h
    split at h
    · cases h
    · split at h
      · rename_i hf
        have hm : 2 ≤ many := by omega
        rw [if_neg (by omega)] at h
        obtain ⟨t', h', rfl⟩ := Option.map_eq_some_iff.1 h
        intro i c hi hc
        cases i with
        | zero => simp at hc; omega
        | succ i => exact shGo_two hR r 1 (R - n) t' hr (by omega) h' i c (by simpa using hi) (by simpa using hc)
      · split at h
        · rename_i he
          obtain ⟨t', h', rfl⟩ := Option.map_eq_some_iff.1 h
          intro i c hi hc
          cases i with
          | zero => simp at hc; omega
          | succ i => exact shGo_two hR r 0 R t' hr (by omega) h' i c (by simpa using hi) (by simpa using hc)
        · exact shGo_two hR r (many + 1) (left - n) t hr (by omega) h
theorem two_sum : ∀ (t : List Nat), (∀ i c, i + 1 < t.length → t[i]? = some c → 2 ≤ c) → (∀ c ∈ t, 1 ≤ c) → 2 * t.length ≤ t.sum + 1
  | [], _, _ => by simp
  | [a], _, h => by have := h a (by simp); simp; omega
  | a :: b :: r, h, h1 => by
    have ih := two_sum (b :: r) (fun i c hi hc => h (i + 1) c (by simpa using hi) (by simpa using hc)) fun c hc => h1 c (by simp only [List.mem_cons] at hc ⊢; exact .inr hc)
    have ha := h 0 a (by simp) rfl
    simp only [List.length_cons, List.sum_cons] at ih ⊢
    omega
/-- The first keys of nodes. -/
def firstsS : List Ky → List Nat → List Ky
  | _, [] => []
  | [], _ :: _ => []
  | k :: ks, c :: r => k :: firstsS ((k :: ks).drop c) r
theorem firstsS_len : ∀ (ks : List Ky) (cs : List Nat), cs.sum = ks.length → (∀ c ∈ cs, 1 ≤ c) → (firstsS ks cs).length = cs.length
  | ks, [], _, _ => by unfold firstsS; rfl
  | [], c :: r, h, h1 => by
    have := h1 c (by simp)
    simp at h
    omega
  | k :: ks, c :: r, h, h1 => by
    have hc := h1 c (by simp)
    simp only [List.sum_cons, List.length_cons] at h
    rw [firstsS, List.length_cons, firstsS_len _ r (by rw [List.length_drop, List.length_cons]; omega) fun x hx => h1 x (by simp [hx])]
    rfl
theorem firstsS_sub : ∀ (ks : List Ky) (cs : List Nat), (∀ c ∈ cs, 1 ≤ c) → List.Sublist (firstsS ks cs) ks
  | ks, [], _ => by unfold firstsS; exact List.nil_sublist _
  | [], c :: r, _ => by unfold firstsS; exact List.Sublist.refl _
  | k :: ks, c :: r, h1 => by
    have hc := h1 c (by simp)
    obtain ⟨c', rfl⟩ : ∃ c', c = c' + 1 := ⟨c - 1, by omega⟩
    rw [firstsS, List.drop_succ_cons]
    exact List.Sublist.cons_cons _ ((firstsS_sub _ r fun x hx => h1 x (by simp [hx])).trans (List.drop_sublist _ _))
theorem goodKs_pair (l : List Ky) : goodKs l ↔ (∀ k ∈ l, mayK k) ∧ l.Pairwise keyLt := by
  unfold goodKs
  constructor
  · rintro ⟨h1, h2⟩
    refine ⟨h1, List.pairwise_iff_getElem.2 fun i j hi hj hij => ?_⟩
    have hall := (ordB_iff _).1 h2
    have key : ∀ (k i : Nat) (a b : Ky), l[i]? = some a → l[i + 1 + k]? = some b → keyLt a b := by
      intro k
      induction k with
      | zero => exact fun i a b ha hb => hall i ⟨a, []⟩ ⟨b, []⟩ (by rw [List.getElem?_map, ha]; rfl) (by rw [List.getElem?_map, hb]; rfl)
      | succ k ih =>
        intro i a b ha hb
        obtain ⟨c, hc⟩ : ∃ c, l[i + 1 + k]? = some c := ⟨_, List.getElem?_eq_getElem (by have := (List.getElem?_eq_some_iff.1 hb).1; omega)⟩
        exact keyLt_trans (ih i a c ha hc) (hall (i + 1 + k) ⟨c, []⟩ ⟨b, []⟩ (by rw [List.getElem?_map, hc]; rfl) (by rw [List.getElem?_map, show i + 1 + k + 1 = i + 1 + (k + 1) by omega, hb]; rfl))
    exact key (j - (i + 1)) i _ _ (List.getElem?_eq_getElem hi) (by rw [show i + 1 + (j - (i + 1)) = j by omega]; exact List.getElem?_eq_getElem hj)
  · rintro ⟨h1, h2⟩
    refine ⟨h1, (ordB_iff _).2 fun i a b ha hb => ?_⟩
    rw [List.getElem?_map] at ha hb
    obtain ⟨a', ha', rfl⟩ := Option.map_eq_some_iff.1 ha
    obtain ⟨b', hb', rfl⟩ := Option.map_eq_some_iff.1 hb
    obtain ⟨hi, rfl⟩ := List.getElem?_eq_some_iff.1 ha'
    obtain ⟨hj, rfl⟩ := List.getElem?_eq_some_iff.1 hb'
    exact List.pairwise_iff_getElem.1 h2 i (i + 1) hi hj (by omega)
theorem goodKs_sub {l m : List Ky} (h : goodKs m) (hs : List.Sublist l m) : goodKs l := by
  rw [goodKs_pair] at h ⊢
  exact ⟨fun k hk => h.1 k (hs.subset hk), h.2.sublist hs⟩
theorem shCut_ok_iff {s : Int} {its : List (Ky × Nat)} {least : Nat} (h : (shCut s its least).2 = 0) : (128 ≤ s ∧ s ≤ 256) ∧ goodKs (its.map (·.1)) ∧ shGo (s.toNat - 6) least its 0 (s.toNat - 6) = some (shCut s its least).1 := by
  unfold shCut at h ⊢
  split at h
  · cases h
  · rename_i h1
    rw [if_neg h1]
    split at h
    · cases h
    · rename_i h2
      rw [if_neg h2]
      split at h
      · cases h
      · rename_i t ht
        exact ⟨by omega, Classical.not_not.1 h2, by rw [ht]⟩
theorem shCut_code (s : Int) (its : List (Ky × Nat)) (least : Nat) : (shCut s its least).2 ≤ 3 := by
  unfold shCut
  split
  · simp
  · split
    · simp
    · split <;> simp
theorem shCut_no {s : Int} {its : List (Ky × Nat)} {least : Nat} (h : (shCut s its least).2 ≠ 0) : (shCut s its least).1 = [] := by
  unfold shCut at h ⊢
  split at h
  · rename_i h1
    rw [if_pos h1]
  · rename_i h1
    rw [if_neg h1]
    split at h
    · rename_i h2
      rw [if_pos h2]
    · rename_i h2
      rw [if_neg h2]
      split at h
      · rfl
      · exact absurd rfl h
/-- Leaves that are. -/
theorem leavesS_ok {s : Int} {l : List Fct} (h : (leavesS s l).2 = 0) : (128 ≤ s ∧ s ≤ 256) ∧ goodKs (l.map (·.key)) ∧ (leavesS s l).1.sum = l.length ∧ ∀ c ∈ (leavesS s l).1, 1 ≤ c := by
  obtain ⟨h1, h2, h3⟩ := shCut_ok_iff h
  rw [itsL_keys] at h2
  refine ⟨h1, h2, ?_, shGo_pos _ _ _ _ (fun _ => rfl) h3⟩
  have := shGo_sum _ _ _ _ h3
  unfold leavesS
  rw [this]
  simp [itsL]
/-- Nodes above keys: they are. -/
theorem aboveS_ok {s : Int} {ks : List Ky} (hs : 128 ≤ s ∧ s ≤ 256) (hg : goodKs ks) : (aboveS s ks).2 = 0 ∧ (aboveS s ks).1.sum = ks.length ∧ (∀ c ∈ (aboveS s ks).1, 1 ≤ c) ∧ (∀ i c, i + 1 < (aboveS s ks).1.length → (aboveS s ks).1[i]? = some c → 2 ≤ c) := by
  have h18 : ∀ it ∈ itsA ks, it.2 ≤ 18 := by
    intro it hi
    obtain ⟨k, _, rfl⟩ := List.mem_map.1 hi
    exact innS_le k
  obtain ⟨t, ht⟩ := shGo_some (R := s.toNat - 6) (least := 2) (itsA ks) 0 (s.toNat - 6) fun it hi => Nat.le_trans (h18 it hi) (by omega)
  have e : aboveS s ks = (t, 0) := by
    unfold aboveS shCut
    rw [if_neg (fun h => h hs), if_neg (by rw [itsA_keys]; exact fun h => h hg), ht]
  rw [e]
  refine ⟨rfl, ?_, shGo_pos _ _ _ _ (fun _ => rfl) ht, shGo_two (by omega) _ _ _ _ h18 (by omega) ht⟩
  have := shGo_sum _ _ _ _ ht
  simpa [itsA] using this
end Go.Proofs.Ytlioclicopakbaa
