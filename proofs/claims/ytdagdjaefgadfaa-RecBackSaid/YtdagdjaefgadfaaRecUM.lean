import Derived.Test.YtdagdjaefgadfaaMPlain
set_option linter.unusedVariables false
set_option linter.unusedSimpArgs false
/- What is read is written as the same bytes; plain. -/
namespace Go.Proofs.Ytdagdjaefgadfaa
open Go.RowKit

theorem rowS_inv {l x : List UInt8} {st : Option (List UInt8)} (h : rowS (some l) = (x, 0, st)) : ∃ rest, st = some rest ∧ l = UInt8.ofNat x.length :: (x ++ rest) ∧ x.length ≤ 255 := by
  cases l with
  | nil => simp [rowS] at h
  | cons b l =>
    unfold rowS at h
    dsimp only at h
    split at h
    · simp at h
    · rename_i hl
      simp only [Prod.mk.injEq] at h
      obtain ⟨rfl, _, rfl⟩ := h
      have hb := b.toNat_lt
      have htl : (l.take b.toNat).length = b.toNat := by rw [List.length_take]; omega
      refine ⟨_, rfl, ?_, by omega⟩
      rw [htl, UInt8.ofNat_toNat, List.take_append_drop]
theorem digs_two (a b : UInt8) : digs (a.toNat + 256 * b.toNat) 2 = [a, b] := by
  have ha := a.toNat_lt
  have hb := b.toNat_lt
  rw [digs2']
  have h1 : UInt8.ofNat (a.toNat + 256 * b.toNat) = a := by apply UInt8.toNat.inj; rw [UInt8.toNat_ofNat']; omega
  have h2 : UInt8.ofNat ((a.toNat + 256 * b.toNat) / 256) = b := by apply UInt8.toNat.inj; rw [UInt8.toNat_ofNat']; omega
  rw [h1, h2]
theorem finK_inv {k k' : Ky} {st st' : Option (List UInt8)} (h : finK k st = (k', 0, st')) : k' = k ∧ st' = st ∧ mayK k := by
  unfold finK at h
  split at h
  · simp only [Prod.mk.injEq] at h
    exact ⟨h.1.symm, h.2.2.symm, ‹_›⟩
  · simp at h
theorem getKeyS_inv {l : List UInt8} {k : Ky} {st : Option (List UInt8)} (h : getKeyS (some l) = (k, 0, st)) : ∃ rest, st = some rest ∧ l = keyB k ++ rest ∧ mayK k := by
  match l, h with
  | [], h => simp [getKeyS] at h
  | [_], h => simp [getKeyS] at h
  | [_, _], h => simp [getKeyS] at h
  | a :: b :: c :: r, h =>
    unfold getKeyS at h
    dsimp only at h
    have htn : (((a.toNat + 256 * b.toNat : Nat) : Int)).toNat = a.toNat + 256 * b.toNat := by omega
    split at h
    · rename_i h2
      split at h
      · simp at h
      · rename_i hrow
        obtain ⟨q, hq⟩ : ∃ q, rowS (some r) = q := ⟨_, rfl⟩
        rw [hq] at h hrow
        obtain ⟨nm, code, st1⟩ := q
        dsimp only at h hrow
        obtain rfl : code = 0 := by omega
        obtain ⟨rest, hst, hl, hn⟩ := rowS_inv hq
        obtain ⟨rfl, rfl, hm⟩ := finK_inv h
        refine ⟨rest, hst, ?_, hm⟩
        unfold keyB
        dsimp only
        rw [htn, digs_two, if_pos h2, hl]
        simp
    · rename_i h2
      split at h
      · rename_i h3
        match r, h with
        | [], h => simp at h
        | d :: r', h =>
          obtain ⟨rfl, rfl, hm⟩ := finK_inv h
          refine ⟨r', rfl, ?_, hm⟩
          unfold keyB
          dsimp only
          have hd : UInt8.ofNat ((d.toNat : Int).toNat) = d := by rw [Int.toNat_natCast, UInt8.ofNat_toNat]
          rw [htn, digs_two, if_neg h2, if_pos h3, hd]
          simp
      · rename_i h3
        obtain ⟨rfl, rfl, hm⟩ := finK_inv h
        refine ⟨r, rfl, ?_, hm⟩
        unfold keyB
        dsimp only
        rw [htn, digs_two, if_neg h2, if_neg h3]
        simp
theorem oneS_inv {l : List UInt8} {c : Chg} {st : Option (List UInt8)} (h : oneS (some l) = (c, 0, st)) : ∃ rest, st = some rest ∧ l = chgB c ++ rest ∧ chgOk c := by
  cases l with
  | nil => simp [oneS] at h
  | cons f r =>
    unfold oneS at h
    dsimp only at h
    split at h
    · simp at h
    · rename_i h1
      obtain ⟨q, hq⟩ : ∃ q, getKeyS (some r) = q := ⟨_, rfl⟩
      rw [hq] at h
      obtain ⟨k, code, st1⟩ := q
      dsimp only at h
      split at h
      · rename_i hc
        simp only [Prod.mk.injEq] at h
        obtain ⟨rfl, rfl, rfl⟩ := h
        obtain ⟨rest, hst, hl, hm⟩ := getKeyS_inv hq
        have hf0 : f.toNat = 0 := by
          rcases hc with hc | hc
          · exact absurd rfl hc
          · exact hc
        have hf : f = 0 := UInt8.toNat.inj hf0
        refine ⟨rest, hst, ?_, hm, ?_⟩
        · rw [hf, hl]
          simp [chgB]
        · simp [valOk]
      · rename_i hc
        obtain rfl : code = 0 := by
          apply Classical.byContradiction
          exact fun hh => hc (.inl hh)
        obtain ⟨rest, hst, hl, hm⟩ := getKeyS_inv hq
        subst hst
        have hf0 : f.toNat ≠ 0 := fun hh => hc (.inr hh)
        have hf : f = 1 := UInt8.toNat.inj (by show f.toNat = 1; omega)
        obtain ⟨q, hq2⟩ : ∃ q, rowS (some rest) = q := ⟨_, rfl⟩
        rw [hq2] at h
        obtain ⟨x, rc, st2⟩ := q
        dsimp only at h
        split at h
        · simp at h
        · rename_i hx
          simp only [Prod.mk.injEq] at h
          obtain ⟨rfl, rfl, rfl⟩ := h
          obtain ⟨rest2, hst2, hl2, hx255⟩ := rowS_inv hq2
          refine ⟨rest2, hst2, ?_, hm, ?_⟩
          · rw [hf, hl, hl2]
            simp [chgB]
          · have hx0 : x.length ≠ 0 := fun hh => hx ⟨rfl, hh⟩
            simp only [valOk]
            rw [if_neg (by simp)]
            omega
theorem oneS_some {st : Option (List UInt8)} (h : (oneS st).2.1 = 0) : ∃ l, st = some l := by
  cases st with
  | none => simp [oneS] at h
  | some l => exact ⟨l, rfl⟩
theorem getsGo_inv : ∀ (k : Nat) (l : List UInt8) (m : List Chg) (st : Option (List UInt8)), getsGo k (some l) = (m, 0, st) → ∃ rest, st = some rest ∧ l = m.flatMap chgB ++ rest ∧ m.length = k ∧ ∀ c ∈ m, chgOk c
  | 0, l, m, st, h => by
    simp only [getsGo, Prod.mk.injEq] at h
    obtain ⟨rfl, _, rfl⟩ := h
    exact ⟨l, rfl, rfl, rfl, fun c hc => by cases hc⟩
  | k + 1, l, m, st, h => by
    rw [getsGo] at h
    obtain ⟨q, hq⟩ : ∃ q, oneS (some l) = q := ⟨_, rfl⟩
    rw [hq] at h
    obtain ⟨c, code, st1⟩ := q
    dsimp only at h
    split at h
    · simp only [Prod.mk.injEq] at h
      rename_i hc
      exact absurd h.2.1 hc
    · rename_i hc
      obtain rfl : code = 0 := by omega
      obtain ⟨rest, rfl, hl, hok⟩ := oneS_inv hq
      obtain ⟨q2, hq2⟩ : ∃ q, getsGo k (some rest) = q := ⟨_, rfl⟩
      rw [hq2] at h
      obtain ⟨m', c2, st2⟩ := q2
      dsimp only at h
      split at h
      · simp only [Prod.mk.injEq] at h
        rename_i hc2
        exact absurd h.2.1 hc2
      · rename_i hc2
        obtain rfl : c2 = 0 := by omega
        simp only [Prod.mk.injEq] at h
        obtain ⟨rfl, _, rfl⟩ := h
        obtain ⟨rest2, h1, h2, h3, h4⟩ := getsGo_inv k rest m' st2 hq2
        refine ⟨rest2, h1, ?_, by simp [h3], fun x hx => ?_⟩
        · rw [hl, h2]; simp
        · rcases List.mem_cons.1 hx with rfl | hx
          · exact hok
          · exact h4 x hx
/-- A body that says changes is theirs. -/
theorem getRecS_inv {xs : List UInt8} {m : List Chg} (h : getRecS xs = (m, 0)) : bodyOk m ∧ bodyB m = xs := by
  unfold getRecS at h
  cases xs with
  | nil => simp at h
  | cons n r =>
    dsimp only at h
    have hn := n.toNat_lt
    split at h
    · simp at h
    · rename_i h0
      obtain ⟨q, hq⟩ : ∃ q, getsGo n.toNat (some r) = q := ⟨_, rfl⟩
      rw [hq] at h
      obtain ⟨m', code, st⟩ := q
      dsimp only at h
      split at h
      · rename_i hc
        simp only [Prod.mk.injEq] at h
        exact absurd h.2 hc
      · rename_i hc
        obtain rfl : code = 0 := by omega
        split at h
        · simp at h
        · rename_i hleft
          simp only [Prod.mk.injEq] at h
          obtain ⟨rfl, _⟩ := h
          obtain ⟨rest, rfl, hl, hm, hok⟩ := getsGo_inv _ _ _ _ hq
          have hr0 : rest = [] := List.eq_nil_of_length_eq_zero (by simp [leftS] at hleft; simp [hleft])
          subst hr0
          rw [List.append_nil] at hl
          refine ⟨⟨by omega, by omega, hok⟩, ?_⟩
          unfold bodyB
          rw [hm, UInt8.ofNat_toNat, hl]
/-- Nothing shorter says changes. -/
theorem getRecS_cut {l : List Chg} (h : bodyOk l) {n : Nat} (hn : n < (bodyB l).length) : (getRecS ((bodyB l).take n)).2 ≠ 0 := by
  intro h0
  obtain ⟨q, hq⟩ : ∃ q, getRecS ((bodyB l).take n) = q := ⟨_, rfl⟩
  rw [hq] at h0
  obtain ⟨m, code⟩ := q
  dsimp only at h0
  subst h0
  obtain ⟨hm, hb⟩ := getRecS_inv hq
  have hle := List.take_append_drop n (bodyB l)
  rw [← hb] at hle
  obtain ⟨D, hD⟩ : ∃ D, (bodyB l).drop n = D := ⟨_, rfl⟩
  have hDl : D.length = (bodyB l).length - n := by rw [← hD, List.length_drop]
  rw [hD] at hle
  have hlen : 0 < D.length := by omega
  clear hD hDl hn hb hq
  -- the first byte is how many
  unfold bodyB at hle
  rw [List.cons_append] at hle
  injection hle with h1 h2
  have h3 : m.length = l.length := by
    have := congrArg UInt8.toNat h1
    rw [UInt8.toNat_ofNat', UInt8.toNat_ofNat'] at this
    have := hm.2.1
    have := h.2.1
    omega
  have g1 := getsGo_put l [] h.2.2
  have g2 := getsGo_put m D hm.2.2
  rw [List.append_nil, ← h2, ← h3] at g1
  rw [g2] at g1
  simp only [Prod.mk.injEq, Option.some.injEq] at g1
  rw [g1.2.2] at hlen
  simp at hlen
end Go.Proofs.Ytdagdjaefgadfaa
