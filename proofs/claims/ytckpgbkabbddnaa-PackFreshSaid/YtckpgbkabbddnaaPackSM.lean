import Derived.Test.YtckpgbkabbddnaaCutSM
import Derived.Test.YtckpgbkabbddnaaMPlain
import Derived.Test.YtckpgbkabbddnaaMBase
import Derived.Test.YtckpgbkabbddnaaRecPM
set_option linter.unusedVariables false
set_option linter.unusedSimpArgs false
/- Layer 13, plain: the parts that pages have, what they say. -/
namespace Go.Proofs.Ytckpgbkabbddnaa
open Go.RowKit

def costSum (l : List Fct) : Nat := (l.map costS).sum
def part (L : List Fct) (a b : Nat) : List Fct := (L.take b).drop a
def segOk (L : List Fct) (R a b : Nat) : Prop := a < b ∧ b ≤ L.length ∧ b - a ≤ 255 ∧ costSum (part L a b) ≤ R
/-- The next fact does not fit. -/
def fullAt (L : List Fct) (R a b : Nat) : Prop := b - a = 255 ∨ ∃ f, L[b]? = some f ∧ R < costSum (part L a b) + costS f
def goodChain (L : List Fct) (R : Nat) : Nat → List Nat → Prop
  | a, [] => segOk L R a L.length
  | a, b :: r => segOk L R a b ∧ b < L.length ∧ fullAt L R a b ∧ goodChain L R b r
def segs (L : List Fct) : Nat → List Nat → List (List Fct)
  | a, [] => [part L a L.length]
  | a, b :: r => part L a b :: segs L b r
theorem part_step {L : List Fct} {a i : Nat} {f : Fct} (h : a ≤ i) (hf : L[i]? = some f) : part L a (i + 1) = part L a i ++ [f] := by
  unfold part
  have hl := (List.getElem?_eq_some_iff.1 hf).1
  rw [List.take_add_one, hf, List.drop_append_of_le_length (by rw [List.length_take]; omega)]
  rfl
theorem part_one {L : List Fct} {i : Nat} {f : Fct} (hf : L[i]? = some f) : part L i (i + 1) = [f] := by
  rw [part_step (Nat.le_refl _) hf]
  unfold part
  rw [List.drop_of_length_le (by rw [List.length_take]; omega)]
  rfl
theorem costSum_step {L : List Fct} {a i : Nat} {f : Fct} (h : a ≤ i) (hf : L[i]? = some f) : costSum (part L a (i + 1)) = costSum (part L a i) + costS f := by
  rw [part_step h hf]
  unfold costSum
  rw [List.map_append, List.sum_append]
  simp
theorem cutsGo_chain (L : List Fct) (R : Nat) (hs : ∀ f ∈ L, costS f ≤ R) : ∀ (k i fr us : Nat), L.length - i = k → i ≤ L.length → 0 < i → fr < i → us = costSum (part L fr i) → us ≤ R → i - fr ≤ 255 → goodChain L R fr (cutsGo R (L.drop i) i fr us)
  | 0, i, fr, us, hk, hi, h0, hfr, hus, huR, h255 => by
    have hi2 : i = L.length := by omega
    rw [List.drop_of_length_le (by omega), cutsGo]
    subst hi2
    exact ⟨hfr, Nat.le_refl _, h255, by rw [← hus]; exact huR⟩
  | k + 1, i, fr, us, hk, hi, h0, hfr, hus, huR, h255 => by
    obtain ⟨f, hf⟩ : ∃ f, L[i]? = some f := ⟨_, List.getElem?_eq_getElem (by omega)⟩
    have hd : L.drop i = f :: L.drop (i + 1) := by
      obtain ⟨h2, h3⟩ := List.getElem?_eq_some_iff.1 hf
      rw [List.drop_eq_getElem_cons h2, h3]
    rw [hd, cutsGo]
    have hcf := hs f (List.mem_of_getElem? hf)
    split
    · rename_i hc
      refine ⟨⟨hfr, by omega, h255, by rw [← hus]; exact huR⟩, by omega, ?_, ?_⟩
      · rcases hc with h | h | h
        · omega
        · exact .inr ⟨f, hf, by rw [← hus]; exact h⟩
        · exact .inl h
      · exact cutsGo_chain L R hs k (i + 1) i (costS f) (by omega) (by omega) (by omega) (by omega) (by rw [part_one hf]; simp [costSum]) hcf (by omega)
    · rename_i hc
      exact cutsGo_chain L R hs k (i + 1) fr (us + costS f) (by omega) (by omega) (by omega) (by omega) (by rw [costSum_step (by omega) hf, hus]) (by omega) (by omega)
/-- Where pages begin: nowhere, or at 0 and on. -/
theorem cuts_chain (L : List Fct) (R : Nat) (hs : ∀ f ∈ L, costS f ≤ R) : (L = [] ∧ cutsGo R L 0 0 0 = []) ∨ (L ≠ [] ∧ ∃ r, cutsGo R L 0 0 0 = 0 :: r ∧ goodChain L R 0 r) := by
  cases L with
  | nil => exact .inl ⟨rfl, rfl⟩
  | cons f l =>
    refine .inr ⟨by simp, cutsGo R l 1 0 (costS f), by rw [cutsGo, if_pos (.inl rfl)], ?_⟩
    have := cutsGo_chain (f :: l) R hs l.length 1 0 (costS f) (by simp) (by simp) (by omega) (by omega) (by simp [part, costSum]) (hs f (by simp)) (by omega)
    simpa using this
theorem segs_len (L : List Fct) : ∀ (a : Nat) (r : List Nat), (segs L a r).length = r.length + 1
  | a, [] => rfl
  | a, b :: r => by rw [segs, List.length_cons, segs_len L b r, List.length_cons]
/-- The parts, by their number. -/
theorem segs_at (L : List Fct) (R : Nat) : ∀ (a : Nat) (r : List Nat), goodChain L R a r → ∀ i p, (segs L a r)[i]? = some p →
    ∃ x, (a :: r)[i]? = some x ∧ segOk L R x ((a :: r).getD (i + 1) L.length) ∧ p = part L x ((a :: r).getD (i + 1) L.length) ∧ (i + 1 < (a :: r).length → (a :: r).getD (i + 1) L.length < L.length ∧ fullAt L R x ((a :: r).getD (i + 1) L.length))
  | a, [], h, i, p, hp => by
    cases i with
    | zero =>
      cases hp
      exact ⟨a, rfl, h, rfl, fun h => by simp at h⟩
    | succ i => simp [segs] at hp
  | a, b :: r, h, i, p, hp => by
    cases i with
    | zero =>
      cases hp
      exact ⟨a, rfl, h.1, rfl, fun _ => ⟨h.2.1, h.2.2.1⟩⟩
    | succ i =>
      obtain ⟨x, h1, h2, h3, h4⟩ := segs_at L R b r h.2.2.2 i p (by simpa [segs] using hp)
      exact ⟨x, h1, h2, h3, fun hh => h4 (by simpa using hh)⟩
theorem chain_len (L : List Fct) (R : Nat) : ∀ (a : Nat) (r : List Nat), goodChain L R a r → a + r.length + 1 ≤ L.length
  | a, [], h => by have h1 : a < L.length := h.1; show a + 0 + 1 ≤ L.length; omega
  | a, b :: r, h => by
    have := chain_len L R b r h.2.2.2
    have := h.1.1
    simp only [List.length_cons]
    omega
/-- The parts up to a place are the facts up to it. -/
theorem segs_take (L : List Fct) (R : Nat) : ∀ (a : Nat) (r : List Nat), goodChain L R a r → ∀ i, i ≤ r.length + 1 → ((segs L a r).take i).flatten = part L a (if i = 0 then a else (a :: r).getD i L.length)
  | a, r, h, 0, _ => by simp [part, List.drop_of_length_le, List.length_take]
  | a, [], h, i + 1, hi => by
    obtain rfl : i = 0 := by simpa using hi
    simp [segs, part]
  | a, b :: r, h, i + 1, hi => by
    have ih := segs_take L R b r h.2.2.2 i (by simpa using hi)
    rw [segs, List.take_succ_cons, List.flatten_cons, ih]
    have hab := h.1.1
    have key : ∀ c, b ≤ c → part L a b ++ part L b c = part L a c := by
      intro c hc
      unfold part
      have h1 : L.take c = L.take b ++ (L.take c).drop b := by
        have := List.take_append_drop b (L.take c)
        rw [List.take_take, Nat.min_eq_left hc] at this
        exact this.symm
      conv => rhs; rw [h1]
      by_cases hbl : a ≤ (L.take b).length
      · rw [List.drop_append_of_le_length hbl]
      · have := h.1.2.1
        rw [List.length_take] at hbl
        omega
    have hmono : ∀ (a : Nat) (r : List Nat), goodChain L R a r → ∀ i, a ≤ (a :: r).getD i L.length := by
      intro a r
      induction r generalizing a with
      | nil =>
        intro h i
        cases i with
        | zero => simp
        | succ i => have := h.1; simp; omega
      | cons b r ih =>
        intro h i
        cases i with
        | zero => simp
        | succ i =>
          have h1 := ih b h.2.2.2 i
          have h2 := h.1.1
          simp only [List.getD_cons_succ]
          omega
    cases i with
    | zero => exact key b (Nat.le_refl _)
    | succ i => exact key _ (hmono b r h.2.2.2 (i + 1))
/-! ### pages -/
def chgOf (f : Fct) : Chg := ⟨f.key, f.val, false⟩
theorem chgB_cost {f : Fct} (h : mayK f.key) : (chgB (chgOf f)).length = costS f := by
  unfold costS
  rw [if_pos h]
  simp [chgB, chgOf]
  omega
theorem chgOf_ok {f : Fct} (h : fOk f) : chgOk (chgOf f) := ⟨h.1, by unfold valOk; rw [if_neg (by simp [chgOf])]; exact h.2⟩
theorem flat_cost : ∀ (l : List Fct), (∀ f ∈ l, fOk f) → ((l.map chgOf).flatMap chgB).length = costSum l
  | [], _ => rfl
  | f :: l, h => by
    have ih := flat_cost l fun x hx => h x (by simp [hx])
    rw [List.map_cons, List.flatMap_cons, List.length_append, ih, chgB_cost (h f (by simp)).1]
    simp [costSum]
theorem bodyB_cost (l : List Fct) (h : ∀ f ∈ l, fOk f) : (bodyB (l.map chgOf)).length = 1 + costSum l := by
  unfold bodyB
  rw [List.length_cons, flat_cost l h]
  omega
theorem part_mem {L : List Fct} {a b : Nat} {f : Fct} (h : f ∈ part L a b) : f ∈ L := List.mem_of_mem_take (List.mem_of_mem_drop h)
theorem part_len {L : List Fct} {a b : Nat} (h : b ≤ L.length) : (part L a b).length = b - a := by unfold part; rw [List.length_drop, List.length_take]; omega
def pageOf (s : Int) (p : List Fct) : List UInt8 := pageS s.toNat 2 (bodyB (p.map chgOf))
/-- A part's page. -/
theorem part_page {s : Int} {L : List Fct} {a b : Nat} (hs : 128 ≤ s ∧ s ≤ 256) (hg : ∀ f ∈ L, fOk f) (hseg : segOk L (s.toNat - 6) a b) :
    bodyOk ((part L a b).map chgOf) ∧ recPutS s ((part L a b).map chgOf) = (pageOf s (part L a b), 0) ∧ getS (pageOf s (part L a b)) = (2, bodyB ((part L a b).map chgOf), 0) ∧ (pageOf s (part L a b)).length = s.toNat ∧ getRecS (bodyB ((part L a b).map chgOf)) = ((part L a b).map chgOf, 0) := by
  obtain ⟨h1, h2, h3, h4⟩ := hseg
  have hl := part_len (L := L) (a := a) h2
  have hok : bodyOk ((part L a b).map chgOf) := by
    refine ⟨by rw [List.length_map, hl]; omega, by rw [List.length_map, hl]; omega, fun c hc => ?_⟩
    obtain ⟨f, hf, rfl⟩ := List.mem_map.1 hc
    exact chgOf_ok (hg f (part_mem hf))
  have hbl := bodyB_cost (part L a b) fun f hf => hg f (part_mem hf)
  have hsz : isPage s.toNat := by unfold isPage; omega
  have hb : (bodyB ((part L a b).map chgOf)).length ≤ s.toNat - 5 := by rw [hbl]; omega
  refine ⟨hok, ?_, getS_page hsz (by decide) (by decide) hb, pageS_length hsz hb, getRecS_put hok⟩
  unfold recPutS
  rw [if_pos hok]
  have := putPageS_mk (kind := 2) hsz (by decide) (by decide) hb
  rw [show ((s.toNat : Nat) : Int) = s by omega] at this
  exact this
/-! ### changes of keys behind all are the facts -/
theorem ordB_before {L : List Fct} (h : ordB L = true) {i j : Nat} {a b : Fct} (ha : L[i]? = some a) (hb : L[j]? = some b) (hij : i < j) : keyLt a.key b.key := by
  have hall := (ordB_iff L).1 h
  obtain ⟨k, rfl⟩ : ∃ k, j = i + 1 + k := ⟨j - (i + 1), by omega⟩
  clear hij
  induction k generalizing b with
  | zero => exact hall i a b ha hb
  | succ k ih =>
    obtain ⟨c, hc⟩ : ∃ c, L[i + 1 + k]? = some c := ⟨_, List.getElem?_eq_getElem (by have := (List.getElem?_eq_some_iff.1 hb).1; omega)⟩
    exact keyLt_trans (ih hc) (hall _ c b hc hb)
theorem ordB_take {L : List Fct} (h : ordB L = true) (n : Nat) : ordB (L.take n) = true := by
  refine (ordB_iff _).2 fun i a b ha hb => (ordB_iff L).1 h i a b ?_ ?_
  · rw [List.getElem?_take] at ha
    split at ha
    · exact ha
    · cases ha
  · rw [List.getElem?_take] at hb
    split at hb
    · exact hb
    · cases hb
theorem oneF_last {L : List Fct} (h : ordB L = true) {i : Nat} {f : Fct} (hf : L[i]? = some f) : oneF (L.take i) (chgOf f) = L.take (i + 1) := by
  have : oneF (L.take i) (chgOf f) = oneGo f (L.take i) false := rfl
  rw [this, oneGo_last, List.take_add_one, hf]
  · rfl
  · intro g hg
    obtain ⟨j, hj⟩ := List.getElem?_of_mem hg
    rw [List.getElem?_take] at hj
    split at hj
    · exact ordB_before h hj hf ‹_›
    · cases hj
theorem apply_part {L : List Fct} (h : ordB L = true) {a b : Nat} (hab : a ≤ b) (hb : b ≤ L.length) : applyF (L.take a) ((part L a b).map chgOf) = L.take b := by
  unfold applyF
  rw [if_pos (ordB_take h a)]
  obtain ⟨k, rfl⟩ : ∃ k, b = a + k := ⟨b - a, by omega⟩
  clear hab
  induction k with
  | zero => simp [part, List.drop_of_length_le, List.length_take]
  | succ k ih =>
    obtain ⟨f, hf⟩ : ∃ f, L[a + k]? = some f := ⟨_, List.getElem?_eq_getElem (by omega)⟩
    rw [show a + (k + 1) = a + k + 1 by omega, part_step (by omega) hf, List.map_append, List.foldl_append, ih (by omega)]
    exact oneF_last h hf
end Go.Proofs.Ytckpgbkabbddnaa
