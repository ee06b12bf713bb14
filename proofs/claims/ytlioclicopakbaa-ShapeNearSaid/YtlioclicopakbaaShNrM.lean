import Derived.Test.YtlioclicopakbaaShLvM
import Derived.Test.YtlioclicopakbaaShAlM
set_option linter.unusedVariables false
set_option linter.unusedSimpArgs false
/- Layer 16, plain: where leaves begin, as long as none is full. -/
namespace Go.Proofs.Ytlioclicopakbaa
open Go.RowKit

def stGo (l : List Ky) : Nat → List Nat → List Ky
  | _, [] => []
  | p, n :: r => (match l[p]? with | some k => [k] | none => []) ++ stGo l (p + n) r
def flOne (l : List Ky) (p : Nat) (r : List Nat) : Bool :=
  match r with
  | [] => false
  | _ :: _ => if p = 0 then false else match l[p - 1]? with | some k => !endS k | none => false
def flGo (l : List Ky) : Nat → List Nat → Bool
  | _, [] => false
  | p, n :: r => flOne l (p + n) r || flGo l (p + n) r
def stk : Bool → List Ky → List Ky
  | _, [] => []
  | b, k :: r => (if b then [k] else []) ++ stk (endS k) r
theorem flOne_no {l : List Ky} {p : Nat} {r : List Nat} {k : Ky} (hr : r ≠ []) (hp : 0 < p) (hk : l[p - 1]? = some k) (he : endS k = false) : flOne l p r = true := by
  unfold flOne
  cases r with
  | nil => exact absurd rfl hr
  | cons a r =>
    dsimp only
    rw [if_neg (by omega), hk]
    dsimp only
    rw [he]
    rfl
theorem shGo_ne {R : Nat} : ∀ (its : List (Ky × Nat)) (many left : Nat) (t : List Nat), 0 < many → shGo R 1 its many left = some t → t ≠ []
  | [], many, left, t, hm, h => by
    simp only [shGo, if_pos hm] at h
    injection h with h
    rw [← h]
    simp
  | (k, n) :: r, many, left, t, hm, h => by
    rw [shGo] at h
    split at h
    · cases h
    · split at h
      · split at h
        · obtain ⟨t', _, rfl⟩ := Option.map_eq_some_iff.1 h
          simp
        · obtain ⟨t', _, rfl⟩ := Option.map_eq_some_iff.1 h
          simp
      · split at h
        · obtain ⟨t', _, rfl⟩ := Option.map_eq_some_iff.1 h
          simp
        · exact shGo_ne r _ _ t (by omega) h
theorem shGo_starts {R : Nat} (L : List Ky) : ∀ (its : List (Ky × Nat)) (many left p : Nat) (t : List Nat), shGo R 1 its many left = some t → L.drop p = its.map (·.1) → many ≤ p → p ≤ L.length → (many = 0 → left = R) → (0 < many → ∃ k, L[p - 1]? = some k ∧ endS k = false) → flGo L (p - many) t = false →
    ∀ x, L[p - many]? = x → stGo L (p - many) t = (if many = 0 then stk true (L.drop p) else (match x with | some k => [k] | none => []) ++ stk false (L.drop p))
  | [], many, left, p, t, h, hd, hmp, hpl, h0, hm, hf, x, hx => by
    simp only [shGo] at h
    injection h with h
    subst h
    rw [hd]
    by_cases hz : many = 0
    · rw [if_pos hz, if_neg (by omega)]
      rfl
    · rw [if_neg hz, if_pos (by omega)]
      simp only [stGo, hx, List.map_nil, stk]
  | (k, n) :: r, many, left, p, t, h, hd, hmp, hpl, h0, hm, hf, x, hx => by
    have hpk : L[p]? = some k := by
      have h1 : (L.drop p)[0]? = some k := by rw [hd]; rfl
      rw [List.getElem?_drop] at h1
      simpa using h1
    have hlt : p < L.length := (List.getElem?_eq_some_iff.1 hpk).1
    have hd1 : L.drop (p + 1) = r.map (·.1) := by
      rw [← List.drop_drop, hd]
      rfl
    rw [shGo] at h
    split at h
    · cases h
    rename_i hRn
    split at h
    · rename_i hc
      -- a cut ahead of an element: some leaf is full
      have hpos : 0 < many := by
        rcases Nat.eq_zero_or_pos many with hz | hz
        · have := h0 hz
          omega
        · exact hz
      obtain ⟨k0, hk0, he0⟩ := hm hpos
      have : ∃ u, t = many :: u ∧ u ≠ [] := by
        split at h
        · obtain ⟨t', _, rfl⟩ := Option.map_eq_some_iff.1 h
          exact ⟨_, rfl, by simp⟩
        · obtain ⟨t', ht', rfl⟩ := Option.map_eq_some_iff.1 h
          exact ⟨_, rfl, shGo_ne _ _ _ _ (by omega) ht'⟩
      obtain ⟨u, rfl, hu⟩ := this
      rw [flGo, show p - many + many = p by omega, flOne_no hu (by omega) hk0 he0] at hf
      cases hf
    · rename_i hc
      split at h
      · rename_i he
        obtain ⟨t', ht', rfl⟩ := Option.map_eq_some_iff.1 h
        rw [flGo, show p - many + (many + 1) = p + 1 by omega, Bool.or_eq_false_iff] at hf
        have ih := shGo_starts L r 0 R (p + 1) t' ht' hd1 (by omega) (by omega) (fun _ => rfl) (fun h => by omega) (by simpa using hf.2) _ rfl
        rw [if_pos rfl] at ih
        rw [stGo, show p - many + (many + 1) = p + 1 by omega, show stGo L (p + 1) t' = stk true (L.drop (p + 1)) by simpa using ih, hd, hd1, hx]
        by_cases hz : many = 0
        · rw [if_pos hz]
          subst hz
          rw [Nat.sub_zero, hpk] at hx
          subst hx
          simp only [List.map_cons, stk, he.2]
          rfl
        · rw [if_neg hz]
          simp only [List.map_cons, stk, he.2]
          simp
      · rename_i he
        have hek : endS k = false := by
          cases hh : endS k with
          | false => rfl
          | true => exact absurd ⟨by omega, hh⟩ he
        have ih := shGo_starts L r (many + 1) (left - n) (p + 1) t h hd1 (by omega) (by omega) (fun h => by omega) (fun _ => ⟨k, by simpa using hpk, hek⟩) (by rw [show p + 1 - (many + 1) = p - many by omega]; exact hf) x (by rw [show p + 1 - (many + 1) = p - many by omega]; exact hx)
        rw [show p + 1 - (many + 1) = p - many by omega, if_neg (by omega)] at ih
        rw [ih, hd, hd1]
        by_cases hz : many = 0
        · rw [if_pos hz]
          subst hz
          rw [Nat.sub_zero, hpk] at hx
          subst hx
          simp only [List.map_cons, stk, hek]
          simp
        · rw [if_neg hz]
          simp only [List.map_cons, stk, hek]
          simp
/-- Leaves of which none is full begin behind ends. -/
theorem leaves_starts {s : Int} {l : List Fct} (h : (leavesS s l).2 = 0) (hf : flGo (l.map (·.key)) 0 (leavesS s l).1 = false) : stGo (l.map (·.key)) 0 (leavesS s l).1 = stk true (l.map (·.key)) := by
  obtain ⟨hs, hg, hsh⟩ := shCut_ok_iff (s := s) (its := itsL l) (least := 1) h
  have e1 : (shCut s (itsL l) 1).1 = (leavesS s l).1 := rfl
  rw [e1] at hsh
  have := shGo_starts (l.map (·.key)) (itsL l) 0 _ 0 _ hsh (by rw [List.drop_zero, itsL_keys]) (Nat.le_refl _) (Nat.zero_le _) (fun _ => rfl) (fun h => by omega) (by simpa using hf) _ rfl
  simpa using this
/-! ### one key more -/
def lastE : Bool → List Ky → Bool
  | b, [] => b
  | _, k :: r => lastE (endS k) r
theorem stk_append (l : List Ky) : ∀ b A, stk b (A ++ l) = stk b A ++ stk (lastE b A) l
  | b, [] => rfl
  | b, k :: A => by
    rw [List.cons_append, stk, stk, stk_append l (endS k) A, lastE, List.append_assoc]
def nots (Y X : List Ky) : Nat := (X.filter fun x => decide (x ∉ Y)).length
theorem nots_le {X Y U M V : List Ky} (hX : X = U ++ M ++ V) (hU : ∀ x ∈ U, x ∈ Y) (hV : ∀ x ∈ V, x ∈ Y) : nots Y X ≤ M.length := by
  subst hX
  unfold nots
  rw [List.filter_append, List.filter_append]
  have h1 : U.filter (fun x => decide (x ∉ Y)) = [] := List.filter_eq_nil_iff.2 fun x hx => by simp [hU x hx]
  have h2 : V.filter (fun x => decide (x ∉ Y)) = [] := List.filter_eq_nil_iff.2 fun x hx => by simp [hV x hx]
  rw [h1, h2]
  simp only [List.nil_append, List.append_nil]
  exact List.length_filter_le _ _
theorem nots_self (X : List Ky) : nots X X = 0 := by
  have := nots_le (X := X) (Y := X) (U := X) (M := []) (V := []) (by simp) (fun _ h => h) (fun _ h => by cases h)
  simpa using this
theorem one_more (A : List Ky) (k : Ky) (B : List Ky) : nots (stk true (A ++ k :: B)) (stk true (A ++ B)) + nots (stk true (A ++ B)) (stk true (A ++ k :: B)) ≤ 2 := by
  rw [stk_append, stk_append]
  generalize lastE true A = b
  generalize stk true A = U
  have hin : ∀ (V : List Ky) (x : Ky), x ∈ V → x ∈ U ++ V := fun V x h => List.mem_append_right _ h
  cases B with
  | nil =>
    have e1 : stk b [] = [] := rfl
    have e2 : stk b [k] = (if b then [k] else []) ++ [] := rfl
    rw [e1, e2]
    have h1 := nots_le (X := U ++ []) (Y := U ++ ((if b then [k] else []) ++ [])) (U := U) (M := []) (V := []) (by simp) (fun x h => List.mem_append_left _ h) (fun _ h => by cases h)
    have h2 := nots_le (X := U ++ ((if b then [k] else []) ++ [])) (Y := U ++ []) (U := U) (M := if b then [k] else []) (V := []) (by simp) (fun x h => List.mem_append_left _ h) (fun _ h => by cases h)
    have h3 : (if b then [k] else ([] : List Ky)).length ≤ 1 := by split <;> simp
    simp only [List.length_nil] at h1
    omega
  | cons x B =>
    have e1 : stk b (x :: B) = (if b then [x] else []) ++ stk (endS x) B := rfl
    have e2 : stk b (k :: x :: B) = (if b then [k] else []) ++ ((if endS k then [x] else []) ++ stk (endS x) B) := rfl
    rw [e1, e2]
    generalize stk (endS x) B = V
    cases b with
    | false =>
      have h1 := nots_le (X := U ++ ((if false = true then [x] else []) ++ V)) (Y := U ++ ((if false = true then [k] else []) ++ ((if endS k then [x] else []) ++ V))) (U := U) (M := []) (V := V) (by simp) (fun y h => List.mem_append_left _ h) (fun y h => hin _ _ (by simp [h]))
      have h2 := nots_le (X := U ++ ((if false = true then [k] else []) ++ ((if endS k then [x] else []) ++ V))) (Y := U ++ ((if false = true then [x] else []) ++ V)) (U := U) (M := if endS k then [x] else []) (V := V) (by simp) (fun y h => List.mem_append_left _ h) (fun y h => hin _ _ (by simp [h]))
      have h3 : (if endS k then [x] else ([] : List Ky)).length ≤ 1 := by split <;> simp
      simp only [List.length_nil] at h1
      omega
    | true =>
      cases endS k with
      | true =>
        have h1 := nots_le (X := U ++ ((if true = true then [x] else []) ++ V)) (Y := U ++ ((if true = true then [k] else []) ++ ((if true = true then [x] else []) ++ V))) (U := U) (M := []) (V := x :: V) (by simp) (fun y h => List.mem_append_left _ h) (fun y h => hin _ _ (by simp at h; rcases h with h | h <;> simp [h]))
        have h2 := nots_le (X := U ++ ((if true = true then [k] else []) ++ ((if true = true then [x] else []) ++ V))) (Y := U ++ ((if true = true then [x] else []) ++ V)) (U := U) (M := [k]) (V := x :: V) (by simp) (fun y h => List.mem_append_left _ h) (fun y h => hin _ _ (by simp at h; rcases h with h | h <;> simp [h]))
        exact Nat.le_trans (Nat.add_le_add h1 h2) (by simp)
      | false =>
        have h1 := nots_le (X := U ++ ((if true = true then [x] else []) ++ V)) (Y := U ++ ((if true = true then [k] else []) ++ ((if false = true then [x] else []) ++ V))) (U := U) (M := [x]) (V := V) (by simp) (fun y h => List.mem_append_left _ h) (fun y h => hin _ _ (by simp [h]))
        have h2 := nots_le (X := U ++ ((if true = true then [k] else []) ++ ((if false = true then [x] else []) ++ V))) (Y := U ++ ((if true = true then [x] else []) ++ V)) (U := U) (M := [k]) (V := V) (by simp) (fun y h => List.mem_append_left _ h) (fun y h => hin _ _ (by simp [h]))
        exact Nat.le_trans (Nat.add_le_add h1 h2) (by simp)
theorem ordB_before' {L : List Fct} (h : ordB L = true) {i j : Nat} {a b : Fct} (ha : L[i]? = some a) (hb : L[j]? = some b) (hij : i < j) : keyLt a.key b.key := by
  have hall := (ordB_iff L).1 h
  obtain ⟨k, rfl⟩ : ∃ k, j = i + 1 + k := ⟨j - (i + 1), by omega⟩
  clear hij
  induction k generalizing b with
  | zero => exact hall i a b ha hb
  | succ k ih =>
    obtain ⟨c, hc⟩ : ∃ c, L[i + 1 + k]? = some c := ⟨_, List.getElem?_eq_getElem (by have := (List.getElem?_eq_some_iff.1 hb).1; omega)⟩
    exact keyLt_trans (ih hc) (hall _ c b hc hb)
theorem oneGo_done (c : Fct) : ∀ l : List Fct, (∀ f ∈ l, keyLt c.key f.key) → oneGo c l true = l
  | [], _ => rfl
  | f :: r, h => by
    have h1 := h f (by simp)
    have ih := oneGo_done c r fun g hg => h g (by simp [hg])
    rw [oneGo, if_neg (fun e => keyLt_ne h1 e.symm), if_neg (fun hh => by cases hh.1), ih]
theorem oneGo_keys (c : Fct) : ∀ l : List Fct, ordB l = true → (oneGo c l false).map (·.key) = l.map (·.key) ∨ ∃ A B, l.map (·.key) = A ++ B ∧ (oneGo c l false).map (·.key) = A ++ c.key :: B
  | [], _ => .inr ⟨[], [], rfl, rfl⟩
  | f :: r, h => by
    have hr : ordB r = true := by
      rw [ordB_iff] at h ⊢
      exact fun i a b ha hb => h (i + 1) a b (by simpa using ha) (by simpa using hb)
    have hall : ∀ g ∈ r, keyLt f.key g.key := fun g hg => by
      obtain ⟨i, hi⟩ := List.getElem?_of_mem hg
      exact ordB_before' h (i := 0) (j := i + 1) rfl (by simpa using hi) (by omega)
    rw [oneGo]
    by_cases h1 : f.key = c.key
    · rw [if_pos h1, if_neg (by simp), oneGo_done c r (fun g hg => by rw [← h1]; exact hall g hg)]
      left
      simp [h1]
    · rw [if_neg h1]
      by_cases h2 : keyLt c.key f.key
      · rw [if_pos ⟨rfl, h2⟩, oneGo_done c r (fun g hg => keyLt_trans h2 (hall g hg))]
        exact .inr ⟨[], f.key :: r.map (·.key), rfl, rfl⟩
      · rw [if_neg (fun h => h2 h.2)]
        rcases oneGo_keys c r hr with h3 | ⟨A, B, h3, h4⟩
        · left
          simp [h3]
        · right
          exact ⟨f.key :: A, B, by simp [h3], by simp [h4]⟩
theorem near_two (c : Fct) {l : List Fct} (h : ordB l = true) : nots (stk true ((oneGo c l false).map (·.key))) (stk true (l.map (·.key))) + nots (stk true (l.map (·.key))) (stk true ((oneGo c l false).map (·.key))) ≤ 2 := by
  rcases oneGo_keys c l h with h1 | ⟨A, B, h1, h2⟩
  · rw [h1, nots_self]
    omega
  · rw [h1, h2]
    exact one_more A c.key B
end Go.Proofs.Ytlioclicopakbaa
