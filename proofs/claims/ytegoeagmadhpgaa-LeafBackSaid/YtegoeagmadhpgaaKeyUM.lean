import Derived.Test.YtegoeagmadhpgaaRecRTM
set_option linter.unusedVariables false
set_option linter.unusedSimpArgs false
/- What is read is written as the same bytes; plain. -/
namespace Go.Proofs.Ytegoeagmadhpgaa
open Go.RowKit

theorem rowS_inv {l x : List UInt8} {st : Option (List UInt8)} (h : rowS (some l) = (x, 0, st)) : ∃ rest, st = some rest ∧ l = UInt8.ofNat x.length :: (x ++ rest) ∧ x.length ≤ 255 := by
  cases l with
  | nil => simp [rowS] at h
  | cons b l =>
    unfold rowS at h
    dsimp only at h
    split at h
    · simp at h
    · rename_i hl
      simp only [Prod.mk.injEq] at h
      obtain ⟨rfl, _, rfl⟩ := h
      have hb := b.toNat_lt
      have htl : (l.take b.toNat).length = b.toNat := by rw [List.length_take]; omega
      refine ⟨_, rfl, ?_, by omega⟩
      rw [htl, UInt8.ofNat_toNat, List.take_append_drop]
theorem digs_two (a b : UInt8) : digs (a.toNat + 256 * b.toNat) 2 = [a, b] := by
  have ha := a.toNat_lt
  have hb := b.toNat_lt
  rw [digs2']
  have h1 : UInt8.ofNat (a.toNat + 256 * b.toNat) = a := by apply UInt8.toNat.inj; rw [UInt8.toNat_ofNat']; omega
  have h2 : UInt8.ofNat ((a.toNat + 256 * b.toNat) / 256) = b := by apply UInt8.toNat.inj; rw [UInt8.toNat_ofNat']; omega
  rw [h1, h2]
theorem finK_inv {k k' : Ky} {st st' : Option (List UInt8)} (h : finK k st = (k', 0, st')) : k' = k ∧ st' = st ∧ mayK k := by
  unfold finK at h
  split at h
  · simp only [Prod.mk.injEq] at h
    exact ⟨h.1.symm, h.2.2.symm, ‹_›⟩
  · simp at h
theorem getKeyS_inv {l : List UInt8} {k : Ky} {st : Option (List UInt8)} (h : getKeyS (some l) = (k, 0, st)) : ∃ rest, st = some rest ∧ l = keyB k ++ rest ∧ mayK k := by
  match l, h with
  | [], h => simp [getKeyS] at h
  | [_], h => simp [getKeyS] at h
  | [_, _], h => simp [getKeyS] at h
  | a :: b :: c :: r, h =>
    unfold getKeyS at h
    dsimp only at h
    have htn : (((a.toNat + 256 * b.toNat : Nat) : Int)).toNat = a.toNat + 256 * b.toNat := by omega
    split at h
    · rename_i h2
      split at h
      · simp at h
      · rename_i hrow
        obtain ⟨q, hq⟩ : ∃ q, rowS (some r) = q := ⟨_, rfl⟩
        rw [hq] at h hrow
        obtain ⟨nm, code, st1⟩ := q
        dsimp only at h hrow
        obtain rfl : code = 0 := by omega
        obtain ⟨rest, hst, hl, hn⟩ := rowS_inv hq
        obtain ⟨rfl, rfl, hm⟩ := finK_inv h
        refine ⟨rest, hst, ?_, hm⟩
        unfold keyB
        dsimp only
        rw [htn, digs_two, if_pos h2, hl]
        simp
    · rename_i h2
      split at h
      · rename_i h3
        match r, h with
        | [], h => simp at h
        | d :: r', h =>
          obtain ⟨rfl, rfl, hm⟩ := finK_inv h
          refine ⟨r', rfl, ?_, hm⟩
          unfold keyB
          dsimp only
          have hd : UInt8.ofNat ((d.toNat : Int).toNat) = d := by rw [Int.toNat_natCast, UInt8.ofNat_toNat]
          rw [htn, digs_two, if_neg h2, if_pos h3, hd]
          simp
      · rename_i h3
        obtain ⟨rfl, rfl, hm⟩ := finK_inv h
        refine ⟨r, rfl, ?_, hm⟩
        unfold keyB
        dsimp only
        rw [htn, digs_two, if_neg h2, if_neg h3]
        simp
end Go.Proofs.Ytegoeagmadhpgaa
