/- Layer 2, plain: a page says what it was made of, and is the only one that says it. -/
import Derived.Test.YtakjjfohjodepaaSealS
set_option linter.unusedVariables false
set_option linter.unusedSimpArgs false
namespace Go.Proofs.Ytakjjfohjodepaa

theorem two_bytes {n : Nat} (h : n < 65536) : (UInt8.ofNat n).toNat + 256 * (UInt8.ofNat (n / 256)).toNat = n := by
  simp only [UInt8.toNat_ofNat']
  omega
theorem bytes_two (a b : UInt8) : digs (a.toNat + 256 * b.toNat) 2 = [a, b] := by
  have h1 := a.toNat_lt
  have h2 := b.toNat_lt
  rw [digs2]
  have e1 : UInt8.ofNat (a.toNat + 256 * b.toNat) = a := by
    apply UInt8.toNat.inj
    rw [UInt8.toNat_ofNat']
    omega
  have e2 : UInt8.ofNat ((a.toNat + 256 * b.toNat) / 256) = b := by
    apply UInt8.toNat.inj
    rw [UInt8.toNat_ofNat']
    omega
  rw [e1, e2]
theorem blank_rep {l : List UInt8} (h : blankS l) : l = List.replicate l.length 255 := List.eq_replicate_iff.2 ⟨rfl, h⟩
theorem blankS_rep (n : Nat) : blankS (List.replicate n 255) := fun x hx => (List.mem_replicate.1 hx).2

theorem getS_page {s : Nat} {kind : UInt8} {body : List UInt8} (hs : isPage s) (hk1 : 1 ≤ kind.toNat) (hk7 : kind.toNat ≤ 7) (hb : body.length ≤ s - 5) : getS (pageS s kind body) = (kind.toNat, body, 0) := by
  have hl := pageS_length (kind := kind) hs hb
  have htl := tailS_length (kind := kind) hs hb
  have hN := noughts_le (tailS s kind body)
  have hbl : ¬ blankS (pageS s kind body) := fun h => by
    have h255 : kind = 255 := h kind (by unfold pageS tailS; simp)
    rw [h255] at hk7
    exact absurd hk7 (by decide)
  unfold isPage at hs
  have e2 : (pageS s kind body).drop 2 = tailS s kind body := by
    unfold pageS
    rw [List.drop_left' (digs_length _ 2)]
  have hc : pageS s kind body = UInt8.ofNat (noughts (tailS s kind body)) :: UInt8.ofNat (noughts (tailS s kind body) / 256) :: kind :: UInt8.ofNat body.length :: UInt8.ofNat (body.length / 256) :: (body ++ List.replicate (s - 5 - body.length) 255) := by
    unfold pageS
    rw [digs2]
    conv => lhs; rhs; unfold tailS
    rw [digs2]
    rfl
  have hrest : (pageS s kind body).drop 5 = body ++ List.replicate (s - 5 - body.length) 255 := by rw [hc]; rfl
  have hrest2 : (pageS s kind body).drop (5 + body.length) = List.replicate (s - 5 - body.length) 255 := by
    rw [← List.drop_drop, hrest, List.drop_left]
  have g0 : (pageS s kind body).getD 0 0 = UInt8.ofNat (noughts (tailS s kind body)) := by rw [hc]; rfl
  have g1 : (pageS s kind body).getD 1 0 = UInt8.ofNat (noughts (tailS s kind body) / 256) := by rw [hc]; rfl
  have g2 : (pageS s kind body).getD 2 0 = kind := by rw [hc]; rfl
  have g3 : (pageS s kind body).getD 3 0 = UInt8.ofNat body.length := by rw [hc]; rfl
  have g4 : (pageS s kind body).getD 4 0 = UInt8.ofNat (body.length / 256) := by rw [hc]; rfl
  unfold getS
  rw [hl, if_neg (by unfold isPage; omega), if_neg hbl, g0, g1, g2, g3, g4, e2, two_bytes (n := noughts (tailS s kind body)) (by omega), two_bytes (n := body.length) (by omega), if_neg (by simp), hrest2, hrest, if_neg (by
    rintro (h | h | h | h)
    · omega
    · omega
    · omega
    · exact h (blankS_rep _)), List.take_left]

theorem getS_ok {b : List UInt8} {r : Nat × List UInt8 × Nat} (h : getS b = r) (h0 : r.2.2 = 0) :
    isPage b.length ∧ 1 ≤ r.1 ∧ r.1 ≤ 7 ∧ r.2.1.length ≤ b.length - 5 ∧ pageS b.length (UInt8.ofNat r.1) r.2.1 = b := by
  subst h
  unfold getS at h0 ⊢
  by_cases hp : isPage b.length
  · rw [if_neg (Classical.not_not.2 hp)] at h0 ⊢
    by_cases hb : blankS b
    · rw [if_pos hb] at h0
      cases h0
    · rw [if_neg hb] at h0 ⊢
      by_cases hn : (b.getD 0 0).toNat + 256 * (b.getD 1 0).toNat ≠ noughts (b.drop 2)
      · rw [if_pos hn] at h0
        cases h0
      · rw [if_neg hn] at h0 ⊢
        have hn := Classical.not_not.1 hn
        by_cases hqq : ((b.getD 2 0).toNat < 1 ∨ 7 < (b.getD 2 0).toNat ∨ b.length - 5 < (b.getD 3 0).toNat + 256 * (b.getD 4 0).toNat ∨ ¬ blankS (b.drop (5 + ((b.getD 3 0).toNat + 256 * (b.getD 4 0).toNat))))
        · rw [if_pos hqq] at h0
          cases h0
        · rw [if_neg hqq]
          dsimp only
          have hk1 : 1 ≤ (b.getD 2 0).toNat := Nat.not_lt.1 fun h => hqq (.inl h)
          have hk7 : (b.getD 2 0).toNat ≤ 7 := Nat.not_lt.1 fun h => hqq (.inr (.inl h))
          have hlen : (b.getD 3 0).toNat + 256 * (b.getD 4 0).toNat ≤ b.length - 5 := Nat.not_lt.1 fun h => hqq (.inr (.inr (.inl h)))
          have hbl : blankS (b.drop (5 + ((b.getD 3 0).toNat + 256 * (b.getD 4 0).toNat))) := Classical.not_not.1 fun h => hqq (.inr (.inr (.inr h)))
          clear hqq h0 hb
          have hp' := hp
          unfold isPage at hp'
          match b, hp' with
          | b0 :: b1 :: b2 :: b3 :: b4 :: rest, hp' =>
            simp only [List.getD_cons_zero, List.getD_cons_succ, List.drop_succ_cons, List.drop_zero] at hn hk1 hk7 hlen hbl ⊢
            have e5 : (b0 :: b1 :: b2 :: b3 :: b4 :: rest).drop (5 + (b3.toNat + 256 * b4.toNat)) = rest.drop (b3.toNat + 256 * b4.toNat) := by rw [← List.drop_drop]; rfl
            rw [e5] at hbl
            have hL : (b0 :: b1 :: b2 :: b3 :: b4 :: rest).length = rest.length + 5 := by simp
            rw [hL] at hlen hp hp' ⊢
            have htake : (rest.take (b3.toNat + 256 * b4.toNat)).length = b3.toNat + 256 * b4.toNat := by rw [List.length_take]; omega
            refine ⟨hp, hk1, hk7, by rw [htake]; exact hlen, ?_⟩
            have hkind : UInt8.ofNat b2.toNat = b2 := by apply UInt8.toNat.inj; rw [UInt8.toNat_ofNat']; have := b2.toNat_lt; omega
            have htail : tailS (rest.length + 5) b2 (rest.take (b3.toNat + 256 * b4.toNat)) = b2 :: b3 :: b4 :: rest := by
              unfold tailS
              have hr := blank_rep hbl
              rw [List.length_drop] at hr
              have e6 : rest.length + 5 - 5 - (b3.toNat + 256 * b4.toNat) = rest.length - (b3.toNat + 256 * b4.toNat) := by omega
              rw [htake, bytes_two, e6, ← hr, List.take_append_drop]
              rfl
            rw [hkind]
            unfold pageS
            rw [htail, ← hn, bytes_two]
            rfl
  · rw [if_pos hp] at h0
    cases h0
theorem getS_no {b : List UInt8} {r : Nat × List UInt8 × Nat} (h : getS b = r) (h0 : r.2.2 ≠ 0) : r.1 = 0 ∧ r.2.1 = [] := by
  subst h
  unfold getS at h0 ⊢
  split
  · exact ⟨rfl, rfl⟩
  · rename_i h1
    rw [if_neg h1] at h0
    split
    · exact ⟨rfl, rfl⟩
    · rename_i h2
      rw [if_neg h2] at h0
      split
      · exact ⟨rfl, rfl⟩
      · rename_i h3
        rw [if_neg h3] at h0
        split
        · exact ⟨rfl, rfl⟩
        · rename_i h4
          rw [if_neg h4] at h0
          exact absurd rfl h0
theorem getS_code (b : List UInt8) : (getS b).2.2 ≤ 7 ∧ (getS b).1 ≤ 7 := by
  by_cases h : (getS b).2.2 = 0
  · exact ⟨by omega, (getS_ok rfl h).2.2.1⟩
  · refine ⟨?_, by rw [(getS_no rfl h).1]; omega⟩
    unfold getS
    split
    · decide
    · split
      · decide
      · split
        · decide
        · split
          · decide
          · exact Nat.zero_le _
theorem putPageS_ok {s : Int} {kind : UInt8} {body : List UInt8} (h : (putPageS s kind body).2 = 0) : 128 ≤ s ∧ s ≤ 256 ∧ 1 ≤ kind.toNat ∧ kind.toNat ≤ 7 ∧ body.length ≤ s.toNat - 5 ∧ putPageS s kind body = (pageS s.toNat kind body, 0) := by
  unfold putPageS at h ⊢
  split at h
  · cases h
  · rename_i h1
    split at h
    · cases h
    · rename_i h2
      rw [if_neg h1, if_neg h2]
      have hs : 128 ≤ s ∧ s ≤ 256 := Classical.not_not.1 fun hn => h1 (.inl hn)
      exact ⟨hs.1, hs.2, Nat.not_lt.1 fun hn => h1 (.inr (.inl hn)), Nat.not_lt.1 fun hn => h1 (.inr (.inr hn)), Nat.not_lt.1 h2, rfl⟩
theorem putPageS_code (s : Int) (kind : UInt8) (body : List UInt8) : (putPageS s kind body).2 ≤ 3 := by
  unfold putPageS
  split
  · decide
  · split
    · decide
    · exact Nat.zero_le _
theorem putPageS_mk {s : Nat} {kind : UInt8} {body : List UInt8} (hs : isPage s) (hk1 : 1 ≤ kind.toNat) (hk7 : kind.toNat ≤ 7) (hb : body.length ≤ s - 5) : putPageS s kind body = (pageS s kind body, 0) := by
  unfold isPage at hs
  unfold putPageS
  rw [if_neg (by rintro (h | h | h) <;> omega), if_neg (by simp; omega)]
  simp
end Go.Proofs.Ytakjjfohjodepaa
