import Derived.Test.YtegoeagmadhpgaaMPlain
set_option linter.unusedVariables false
set_option linter.unusedSimpArgs false
/- What a body of changes says are the changes; plain. -/
namespace Go.Proofs.Ytegoeagmadhpgaa
open Go.RowKit

theorem digs2' (n : Nat) : digs n 2 = [UInt8.ofNat n, UInt8.ofNat (n / 256)] := by simp [digs, List.range_succ]
theorem two_bytes' {n : Nat} (h : n < 65536) : (UInt8.ofNat n).toNat + 256 * (UInt8.ofNat (n / 256)).toNat = n := by
  rw [UInt8.toNat_ofNat', UInt8.toNat_ofNat']
  omega
theorem rowS_put (l r : List UInt8) (h : l.length ≤ 255) : rowS (some (UInt8.ofNat l.length :: (l ++ r))) = (l, 0, some r) := by
  have h1 : (UInt8.ofNat l.length).toNat = l.length := by rw [UInt8.toNat_ofNat']; omega
  unfold rowS
  dsimp only
  rw [h1, if_neg (by rw [List.length_append]; omega)]
  simp
theorem getKeyS_put {k : Ky} (h : mayK k) (r : List UInt8) : getKeyS (some (keyB k ++ r)) = (k, 0, some r) := by
  obtain ⟨i, a, s, c⟩ := k
  obtain ⟨h1, h2, h3⟩ := id h
  dsimp only at h1 h2 h3
  obtain ⟨m, rfl⟩ : ∃ m : Nat, i = m := ⟨i.toNat, by omega⟩
  have hm : m < 65536 := by omega
  have htn : (m : Int).toNat = m := by omega
  unfold keyB
  dsimp only
  rw [htn, digs2']
  rcases h3 with ⟨ha, hn, hc⟩ | ⟨ha, hn, hc⟩ | ⟨ha, hn, hc, hc8⟩
  · subst ha hn hc
    rw [if_neg (by decide), if_neg (by decide)]
    simp only [List.append_nil, List.cons_append, List.nil_append, getKeyS]
    rw [if_neg (by decide), if_neg (by decide), two_bytes' hm]
    exact if_pos h
  · subst ha hc
    have hl : s.data.toList.length ≤ 12 := hn.2.2.1
    rw [if_pos rfl]
    simp only [List.cons_append, List.nil_append, getKeyS]
    rw [if_pos trivial, rowS_put _ _ (by omega), two_bytes' hm]
    dsimp only
    rw [if_neg (by omega)]
    have hs : (⟨s.data.toList.toArray⟩ : ByteArray) = s := by cases s; simp
    rw [hs]
    exact if_pos h
  · subst ha hn
    obtain ⟨z, rfl⟩ : ∃ z : Nat, c = z := ⟨c.toNat, by omega⟩
    have hz : (UInt8.ofNat (z : Int).toNat).toNat = z := by rw [UInt8.toNat_ofNat']; omega
    rw [if_neg (by decide), if_pos rfl]
    simp only [List.cons_append, List.nil_append, getKeyS]
    rw [if_neg (by decide), if_pos trivial, two_bytes' hm, hz]
    exact if_pos h
theorem oneS_put {c : Chg} (h : chgOk c) (r : List UInt8) : oneS (some (chgB c ++ r)) = (c, 0, some r) := by
  obtain ⟨k, v, gn⟩ := c
  obtain ⟨h1, h2⟩ := h
  dsimp only at h1
  cases gn with
  | true =>
    have h3 : v.length = 0 := h2
    have hv : v = [] := List.eq_nil_of_length_eq_zero h3
    subst hv
    have hb : chgB ⟨k, [], true⟩ ++ r = 0 :: (keyB k ++ r) := rfl
    rw [hb]
    unfold oneS
    dsimp only
    rw [getKeyS_put h1]
    simp
  | false =>
    have h3 : 1 ≤ v.length ∧ v.length ≤ 255 := h2
    have hb : chgB ⟨k, v, false⟩ ++ r = 1 :: (keyB k ++ (UInt8.ofNat v.length :: (v ++ r))) := by simp [chgB]
    rw [hb]
    unfold oneS
    dsimp only
    rw [getKeyS_put h1, rowS_put _ _ h3.2]
    dsimp only
    rw [if_neg (by decide), if_neg (by simp), if_neg (by simp; intro hv; rw [hv] at h3; simp at h3)]
theorem getsGo_put : ∀ (cs : List Chg) (r : List UInt8), (∀ c ∈ cs, chgOk c) → getsGo cs.length (some (cs.flatMap chgB ++ r)) = (cs, 0, some r)
  | [], r, _ => rfl
  | c :: cs, r, h => by
    have ih := getsGo_put cs r fun x hx => h x (by simp [hx])
    have hc := oneS_put (h c (by simp)) (cs.flatMap chgB ++ r)
    rw [List.flatMap_cons, List.append_assoc, List.length_cons, getsGo, hc]
    dsimp only
    rw [if_neg (by simp), ih]
    dsimp only
    rw [if_neg (by simp)]
theorem getRecS_put {cs : List Chg} (h : bodyOk cs) : getRecS (bodyB cs) = (cs, 0) := by
  obtain ⟨h1, h2, h3⟩ := h
  have hn : (UInt8.ofNat cs.length).toNat = cs.length := by rw [UInt8.toNat_ofNat']; omega
  have hg := getsGo_put cs [] h3
  rw [List.append_nil] at hg
  unfold bodyB getRecS
  dsimp only
  rw [hn, if_neg (by omega), hg]
  dsimp only
  rw [if_neg (by simp), if_neg (by simp [leftS])]
end Go.Proofs.Ytegoeagmadhpgaa

/- What is read is written as the same bytes; plain. -/
namespace Go.Proofs.Ytegoeagmadhpgaa
open Go.RowKit

theorem rowS_inv {l x : List UInt8} {st : Option (List UInt8)} (h : rowS (some l) = (x, 0, st)) : ∃ rest, st = some rest ∧ l = UInt8.ofNat x.length :: (x ++ rest) ∧ x.length ≤ 255 := by
  cases l with
  | nil => simp [rowS] at h
  | cons b l =>
    unfold rowS at h
    dsimp only at h
    split at h
    · simp at h
    · rename_i hl
      simp only [Prod.mk.injEq] at h
      obtain ⟨rfl, _, rfl⟩ := h
      have hb := b.toNat_lt
      have htl : (l.take b.toNat).length = b.toNat := by rw [List.length_take]; omega
      refine ⟨_, rfl, ?_, by omega⟩
      rw [htl, UInt8.ofNat_toNat, List.take_append_drop]
theorem digs_two (a b : UInt8) : digs (a.toNat + 256 * b.toNat) 2 = [a, b] := by
  have ha := a.toNat_lt
  have hb := b.toNat_lt
  rw [digs2']
  have h1 : UInt8.ofNat (a.toNat + 256 * b.toNat) = a := by apply UInt8.toNat.inj; rw [UInt8.toNat_ofNat']; omega
  have h2 : UInt8.ofNat ((a.toNat + 256 * b.toNat) / 256) = b := by apply UInt8.toNat.inj; rw [UInt8.toNat_ofNat']; omega
  rw [h1, h2]
theorem finK_inv {k k' : Ky} {st st' : Option (List UInt8)} (h : finK k st = (k', 0, st')) : k' = k ∧ st' = st ∧ mayK k := by
  unfold finK at h
  split at h
  · simp only [Prod.mk.injEq] at h
    exact ⟨h.1.symm, h.2.2.symm, ‹_›⟩
  · simp at h
theorem getKeyS_inv {l : List UInt8} {k : Ky} {st : Option (List UInt8)} (h : getKeyS (some l) = (k, 0, st)) : ∃ rest, st = some rest ∧ l = keyB k ++ rest ∧ mayK k := by
  match l, h with
  | [], h => simp [getKeyS] at h
  | [_], h => simp [getKeyS] at h
  | [_, _], h => simp [getKeyS] at h
  | a :: b :: c :: r, h =>
    unfold getKeyS at h
    dsimp only at h
    have htn : (((a.toNat + 256 * b.toNat : Nat) : Int)).toNat = a.toNat + 256 * b.toNat := by omega
    split at h
    · rename_i h2
      split at h
      · simp at h
      · rename_i hrow
        obtain ⟨q, hq⟩ : ∃ q, rowS (some r) = q := ⟨_, rfl⟩
        rw [hq] at h hrow
        obtain ⟨nm, code, st1⟩ := q
        dsimp only at h hrow
        obtain rfl : code = 0 := by omega
        obtain ⟨rest, hst, hl, hn⟩ := rowS_inv hq
        obtain ⟨rfl, rfl, hm⟩ := finK_inv h
        refine ⟨rest, hst, ?_, hm⟩
        unfold keyB
        dsimp only
        rw [htn, digs_two, if_pos h2, hl]
        simp
    · rename_i h2
      split at h
      · rename_i h3
        match r, h with
        | [], h => simp at h
        | d :: r', h =>
          obtain ⟨rfl, rfl, hm⟩ := finK_inv h
          refine ⟨r', rfl, ?_, hm⟩
          unfold keyB
          dsimp only
          have hd : UInt8.ofNat ((d.toNat : Int).toNat) = d := by rw [Int.toNat_natCast, UInt8.ofNat_toNat]
          rw [htn, digs_two, if_neg h2, if_pos h3, hd]
          simp
      · rename_i h3
        obtain ⟨rfl, rfl, hm⟩ := finK_inv h
        refine ⟨r, rfl, ?_, hm⟩
        unfold keyB
        dsimp only
        rw [htn, digs_two, if_neg h2, if_neg h3]
        simp
end Go.Proofs.Ytegoeagmadhpgaa

/- Layer 15, plain: what is put is read, what is read is put. -/
namespace Go.Proofs.Ytegoeagmadhpgaa
open Go.RowKit

section
variable {α : Type} (key : α → Ky)
/-- Each behind the one before it. -/
def chainG : Option Ky → List α → Prop
  | _, [] => True
  | p, a :: m => stepOk p (key a) ∧ chainG (some (key a)) m
instance chainDec : ∀ (p : Option Ky) (m : List α), Decidable (chainG key p m)
  | _, [] => isTrue True.intro
  | p, a :: m => by
    have := chainDec (some (key a)) m
    unfold chainG
    exact inferInstance
end
section
variable {α : Type} {one : Option (List UInt8) → α × Nat × Option (List UInt8)} {key : α → Ky} {enc : α → List UInt8} {fit : α → Prop}
theorem lsGo_put (ho : ∀ a r, fit a → one (some (enc a ++ r)) = (a, 0, some r)) : ∀ (m : List α) (p : Option Ky) (r : List UInt8), (∀ a ∈ m, fit a) → chainG key p m → lsGo one key m.length p (some (m.flatMap enc ++ r)) = (m, 0, some r)
  | [], p, r, _, _ => rfl
  | a :: m, p, r, hf, hc => by
    have ih := lsGo_put ho m (some (key a)) r (fun b hb => hf b (by simp [hb])) hc.2
    have h1 : one (some ((a :: m).flatMap enc ++ r)) = (a, 0, some (m.flatMap enc ++ r)) := by
      rw [List.flatMap_cons, List.append_assoc]
      exact ho a _ (hf a (by simp))
    show lsGo one key (m.length + 1) p _ = _
    rw [lsGo, h1]
    dsimp only
    rw [if_neg (by simp), if_neg (fun h => h hc.1), ih]
    simp
theorem lsS_put (ho : ∀ a r, fit a → one (some (enc a ++ r)) = (a, 0, some r)) {m : List α} (h1 : 1 ≤ m.length) (h2 : m.length ≤ 255) (hf : ∀ a ∈ m, fit a) (hc : chainG key none m) : lsS one key (UInt8.ofNat m.length :: m.flatMap enc) = (m, 0) := by
  have hn : (UInt8.ofNat m.length).toNat = m.length := by
    have := UInt8.toNat_ofNat' (n := m.length)
    have h3 : m.length % 256 = m.length := by omega
    rw [this]
    omega
  have hg := lsGo_put ho m none [] hf hc
  rw [List.append_nil] at hg
  unfold lsS
  dsimp only
  rw [hn, if_neg (by omega), hg]
  simp [leftS]
theorem lsGo_inv (ho : ∀ l a st, one (some l) = (a, 0, st) → ∃ r, st = some r ∧ l = enc a ++ r ∧ fit a) : ∀ (k : Nat) (p : Option Ky) (l : List UInt8) (m : List α) (st : Option (List UInt8)), lsGo one key k p (some l) = (m, 0, st) →
    ∃ r, st = some r ∧ l = m.flatMap enc ++ r ∧ m.length = k ∧ (∀ a ∈ m, fit a) ∧ chainG key p m
  | 0, p, l, m, st, h => by
    simp only [lsGo, Prod.mk.injEq] at h
    obtain ⟨rfl, _, rfl⟩ := h
    exact ⟨l, rfl, rfl, rfl, fun a h => (by simp at h), True.intro⟩
  | k + 1, p, l, m, st, h => by
    rw [lsGo] at h
    obtain ⟨⟨a, c, st1⟩, ha⟩ : ∃ q, one (some l) = q := ⟨_, rfl⟩
    rw [ha] at h
    dsimp only at h
    by_cases hc : c ≠ 0
    · rw [if_pos hc] at h
      simp only [Prod.mk.injEq] at h
      exact absurd h.2.1 hc
    · have hc0 : c = 0 := by omega
      subst hc0
      rw [if_neg hc] at h
      obtain ⟨r1, hs1, hl1, hf1⟩ := ho l a st1 ha
      subst hs1
      by_cases hk : stepOk p (key a)
      · rw [if_neg (fun h => h hk)] at h
        obtain ⟨⟨m', c', st'⟩, hm⟩ : ∃ q, lsGo one key k (some (key a)) (some r1) = q := ⟨_, rfl⟩
        rw [hm] at h
        dsimp only at h
        by_cases hc' : c' ≠ 0
        · rw [if_pos hc'] at h
          simp only [Prod.mk.injEq] at h
          exact absurd h.2.1 hc'
        · have hc0' : c' = 0 := by omega
          subst hc0'
          rw [if_neg hc'] at h
          simp only [Prod.mk.injEq] at h
          obtain ⟨rfl, _, rfl⟩ := h
          obtain ⟨r, h1, h2, h3, h4, h5⟩ := lsGo_inv ho k (some (key a)) r1 m' _ hm
          refine ⟨r, h1, ?_, by simp [h3], fun b hb => ?_, hk, h5⟩
          · rw [hl1, h2, List.flatMap_cons, List.append_assoc]
          · rcases List.mem_cons.1 hb with rfl | hb
            · exact hf1
            · exact h4 b hb
      · rw [if_pos hk] at h
        simp at h
theorem lsS_inv (ho : ∀ l a st, one (some l) = (a, 0, st) → ∃ r, st = some r ∧ l = enc a ++ r ∧ fit a) {xs : List UInt8} {m : List α} (h : lsS one key xs = (m, 0)) : 1 ≤ m.length ∧ m.length ≤ 255 ∧ (∀ a ∈ m, fit a) ∧ chainG key none m ∧ xs = UInt8.ofNat m.length :: m.flatMap enc := by
  cases xs with
  | nil => simp [lsS] at h
  | cons n r =>
    unfold lsS at h
    dsimp only at h
    split at h
    · simp at h
    · rename_i h0
      split at h
      · rename_i h1
        simp only [Prod.mk.injEq] at h
        exact absurd h.2 h1
      · rename_i h1
        split at h
        · simp at h
        · rename_i h2
          obtain ⟨⟨m', c', st'⟩, hm⟩ : ∃ q, lsGo one key n.toNat none (some r) = q := ⟨_, rfl⟩
          rw [hm] at h h1 h2
          dsimp only at h h1 h2
          have hc0 : c' = 0 := by omega
          subst hc0
          simp only [Prod.mk.injEq, and_true] at h
          subst h
          obtain ⟨r', h3, h4, h5, h6, h7⟩ := lsGo_inv ho _ _ _ _ _ hm
          subst h3
          have hr : r' = [] := List.eq_nil_of_length_eq_zero (by simpa [leftS] using h2)
          subst hr
          have hlt := n.toNat_lt
          refine ⟨by omega, by omega, h6, h7, ?_⟩
          rw [h5, UInt8.ofNat_toNat, h4, List.append_nil]
end
theorem fctS_put (f : Fct) (r : List UInt8) (h : fitF f) : fctS (some (fctB f ++ r)) = (f, 0, some r) := by
  have e : fctB f ++ r = keyB f.key ++ (UInt8.ofNat f.val.length :: (f.val ++ r)) := by unfold fctB; simp
  rw [e]
  unfold fctS
  rw [getKeyS_put h.1]
  dsimp only
  rw [rowS_put _ _ h.2.2]
  dsimp only
  rw [if_neg (by simp), if_neg (by simp), if_neg (by have := h.2.1; omega)]
theorem fctS_inv (l : List UInt8) (f : Fct) (st : Option (List UInt8)) (h : fctS (some l) = (f, 0, st)) : ∃ r, st = some r ∧ l = fctB f ++ r ∧ fitF f := by
  unfold fctS at h
  obtain ⟨⟨k, c, st1⟩, hk⟩ : ∃ q, getKeyS (some l) = q := ⟨_, rfl⟩
  rw [hk] at h
  dsimp only at h
  split at h
  · rename_i h1
    simp only [Prod.mk.injEq] at h
    exact absurd h.2.1 h1
  · rename_i h1
    have hc : c = 0 := by omega
    subst hc
    obtain ⟨r1, rfl, hl, hm⟩ := getKeyS_inv hk
    obtain ⟨⟨x, c, st2⟩, hx⟩ : ∃ q, rowS (some r1) = q := ⟨_, rfl⟩
    rw [hx] at h
    dsimp only at h
    split at h
    · rename_i h2
      simp only [Prod.mk.injEq] at h
      exact absurd h.2.1 h2
    · rename_i h2
      have hc : c = 0 := by omega
      subst hc
      obtain ⟨r2, rfl, hl2, hx2⟩ := rowS_inv hx
      split at h
      · simp at h
      · rename_i h3
        simp only [Prod.mk.injEq, true_and] at h
        obtain ⟨rfl, rfl⟩ := h
        refine ⟨r2, rfl, ?_, hm, ?_, hx2⟩
        · rw [hl, hl2]
          unfold fctB
          simp
        · show 1 ≤ x.length
          omega
theorem chain_ordB : ∀ (p : Option Ky) (l : List Fct), chainG Fct.key p l → ordB l = true
  | _, [], _ => rfl
  | _, [a], _ => rfl
  | p, a :: b :: r, h => by
    have ih := chain_ordB (some a.key) (b :: r) h.2
    simp only [ordB, Bool.and_eq_true, decide_eq_true_eq]
    exact ⟨h.2.1 _ rfl, ih⟩
theorem ordB_chain : ∀ (l : List Fct) (p : Option Ky), (∀ a, l[0]? = some a → stepOk p a.key) → ordB l = true → chainG Fct.key p l
  | [], _, _, _ => True.intro
  | [a], p, h, _ => ⟨h a rfl, True.intro⟩
  | a :: b :: r, p, h, ho => by
    simp only [ordB, Bool.and_eq_true, decide_eq_true_eq] at ho
    exact ⟨h a rfl, ordB_chain (b :: r) (some a.key) (fun c hc q hq => by
      injection hq with hq
      subst hq
      simp at hc
      subst hc
      exact ho.1) ho.2⟩
theorem getLeafS_put {l : List Fct} (h : leafOk l) : getLeafS (leafB l) = (l, 0) :=
  lsS_put fctS_put h.1 h.2.1 h.2.2.1 (ordB_chain l none (fun a _ q hq => by cases hq) h.2.2.2)
theorem getLeafS_inv {xs : List UInt8} {l : List Fct} (h : getLeafS xs = (l, 0)) : leafOk l ∧ leafB l = xs := by
  obtain ⟨h1, h2, h3, h4, h5⟩ := lsS_inv fctS_inv h
  exact ⟨⟨h1, h2, h3, chain_ordB _ _ h4⟩, h5.symm⟩

/-! ### children -/
def fitC (c : Chd) : Prop := mayK c.key ∧ (0 ≤ c.block ∧ c.block ≤ 255) ∧ 0 ≤ c.page ∧ c.page ≤ 255
instance (c : Chd) : Decidable (fitC c) := by unfold fitC; exact inferInstance
def chdB (c : Chd) : List UInt8 := keyB c.key ++ [UInt8.ofNat c.block.toNat, UInt8.ofNat c.page.toNat]
def innB (l : List Chd) : List UInt8 := UInt8.ofNat l.length :: l.flatMap chdB
def innOk (l : List Chd) : Prop := 1 ≤ l.length ∧ l.length ≤ 255 ∧ (∀ c ∈ l, fitC c) ∧ chainG Chd.key none l
instance (l : List Chd) : Decidable (innOk l) := by unfold innOk; exact inferInstance
def putInnerS (s : Int) (l : List Chd) : List UInt8 × Nat := if innOk l then putPageS s 5 (innB l) else ([], 2)
theorem byte_back {z : Int} (h : 0 ≤ z ∧ z ≤ 255) : ((UInt8.ofNat z.toNat).toNat : Int) = z := by
  have h1 : (UInt8.ofNat z.toNat).toNat = z.toNat % 256 := UInt8.toNat_ofNat' (n := z.toNat)
  rw [h1]
  omega
theorem chdS_put (c : Chd) (r : List UInt8) (h : fitC c) : chdS (some (chdB c ++ r)) = (c, 0, some r) := by
  have e : chdB c ++ r = keyB c.key ++ (UInt8.ofNat c.block.toNat :: UInt8.ofNat c.page.toNat :: r) := by unfold chdB; simp
  rw [e]
  unfold chdS
  rw [getKeyS_put h.1]
  dsimp only
  have t : ∀ (b : UInt8) (r : List UInt8), takeS (some (b :: r)) 1 = (b.toNat, 0, some r) := fun b r => by simp [takeS, leval]
  rw [t, t, if_neg (by simp), if_neg (by simp), if_neg (by simp), byte_back h.2.1, byte_back h.2.2]
theorem chdS_inv (l : List UInt8) (c : Chd) (st : Option (List UInt8)) (h : chdS (some l) = (c, 0, st)) : ∃ r, st = some r ∧ l = chdB c ++ r ∧ fitC c := by
  unfold chdS at h
  obtain ⟨⟨k, cd, st1⟩, hk⟩ : ∃ q, getKeyS (some l) = q := ⟨_, rfl⟩
  rw [hk] at h
  dsimp only at h
  split at h
  · rename_i h1
    simp only [Prod.mk.injEq] at h
    exact absurd h.2.1 h1
  · rename_i h1
    have hc : cd = 0 := by omega
    subst hc
    obtain ⟨r1, rfl, hl, hm⟩ := getKeyS_inv hk
    have t : ∀ (b : UInt8) (r : List UInt8), takeS (some (b :: r)) 1 = (b.toNat, 0, some r) := fun b r => by simp [takeS, leval]
    cases r1 with
    | nil => simp [takeS] at h
    | cons x r1 =>
      rw [t] at h
      dsimp only at h
      cases r1 with
      | nil => simp [takeS] at h
      | cons y r1 =>
        rw [t] at h
        simp only [ne_eq, not_true_eq_false, if_false, Prod.mk.injEq, true_and] at h
        obtain ⟨rfl, rfl⟩ := h
        have hx := x.toNat_lt
        have hy := y.toNat_lt
        refine ⟨r1, rfl, ?_, hm, ⟨by show (0:Int) ≤ (x.toNat : Int); omega, by show (x.toNat : Int) ≤ 255; omega⟩, by show (0:Int) ≤ (y.toNat : Int); omega, by show (y.toNat : Int) ≤ 255; omega⟩
        rw [hl]
        unfold chdB
        simp
theorem getInnerS_put {l : List Chd} (h : innOk l) : getInnerS (innB l) = (l, 0) := lsS_put chdS_put h.1 h.2.1 h.2.2.1 h.2.2.2
theorem getInnerS_inv {xs : List UInt8} {l : List Chd} (h : getInnerS xs = (l, 0)) : innOk l ∧ innB l = xs := by
  obtain ⟨h1, h2, h3, h4, h5⟩ := lsS_inv chdS_inv h
  exact ⟨⟨h1, h2, h3, h4⟩, h5.symm⟩
theorem chdB_le {c : Chd} (h : fitC c) : (chdB c).length ≤ 272 := by
  have h1 := (keyB_length h.1).2
  unfold chdB
  simp only [List.length_append, List.length_cons, List.length_nil]
  omega
theorem flat_chd_le (l : List Chd) (h : ∀ c ∈ l, fitC c) : (l.flatMap chdB).length ≤ 272 * l.length := by
  induction l with
  | nil => simp
  | cons a l ih =>
    have h1 := chdB_le (h a (by simp))
    have h2 := ih fun c hc => h c (by simp [hc])
    simp only [List.flatMap_cons, List.length_append, List.length_cons]
    omega
theorem innB_le {l : List Chd} (h : innOk l) : (innB l).length ≤ 70000 := by
  have := flat_chd_le l h.2.2.1
  have := h.2.1
  unfold innB
  rw [List.length_cons]
  omega
/-- The chain, place by place. -/
def stepC (l : List Chd) (i : Nat) (c : Chd) : Prop := ∀ p, 0 < i → l[i - 1]? = some p → keyLt p.key c.key
theorem chain_iff (l : List Chd) : chainG Chd.key none l ↔ ∀ i c, l[i]? = some c → stepC l i c := by
  have h : ∀ (l : List Chd) (p : Option Ky), chainG Chd.key p l ↔ (∀ c, l[0]? = some c → stepOk p c.key) ∧ ∀ i a b, l[i]? = some a → l[i + 1]? = some b → keyLt a.key b.key := by
    intro l
    induction l with
    | nil => intro p; simp [chainG]
    | cons a l ih =>
      intro p
      unfold chainG
      rw [ih]
      constructor
      · rintro ⟨h1, h2, h3⟩
        refine ⟨fun c hc => by simp at hc; subst hc; exact h1, fun i x y hx hy => ?_⟩
        cases i with
        | zero =>
          simp at hx hy
          subst hx
          exact h2 y (by simpa using hy) _ rfl
        | succ i =>
          simp at hx hy
          exact h3 i x y hx hy
      · rintro ⟨h1, h2⟩
        refine ⟨h1 a rfl, fun c hc q hq => ?_, fun i x y hx hy => h2 (i + 1) x y (by simpa using hx) (by simpa using hy)⟩
        injection hq with hq
        subst hq
        exact h2 0 a c rfl (by simpa using hc)
  rw [h]
  constructor
  · rintro ⟨_, h2⟩ i c hc p hi hp
    exact h2 (i - 1) p c hp (by rw [show i - 1 + 1 = i by omega]; exact hc)
  · intro h1
    exact ⟨fun c _ q hq => (by cases hq), fun i a b ha hb => h1 (i + 1) b hb a (by omega) (by simpa using ha)⟩
end Go.Proofs.Ytegoeagmadhpgaa
