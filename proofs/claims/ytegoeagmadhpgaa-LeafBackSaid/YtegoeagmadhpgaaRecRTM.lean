import Derived.Test.YtegoeagmadhpgaaMPlain
set_option linter.unusedVariables false
set_option linter.unusedSimpArgs false
/- What a body of changes says are the changes; plain. -/
namespace Go.Proofs.Ytegoeagmadhpgaa
open Go.RowKit

theorem digs2' (n : Nat) : digs n 2 = [UInt8.ofNat n, UInt8.ofNat (n / 256)] := by simp [digs, List.range_succ]
theorem two_bytes' {n : Nat} (h : n < 65536) : (UInt8.ofNat n).toNat + 256 * (UInt8.ofNat (n / 256)).toNat = n := by
  rw [UInt8.toNat_ofNat', UInt8.toNat_ofNat']
  omega
theorem rowS_put (l r : List UInt8) (h : l.length ≤ 255) : rowS (some (UInt8.ofNat l.length :: (l ++ r))) = (l, 0, some r) := by
  have h1 : (UInt8.ofNat l.length).toNat = l.length := by rw [UInt8.toNat_ofNat']; omega
  unfold rowS
  dsimp only
  rw [h1, if_neg (by rw [List.length_append]; omega)]
  simp
theorem getKeyS_put {k : Ky} (h : mayK k) (r : List UInt8) : getKeyS (some (keyB k ++ r)) = (k, 0, some r) := by
  obtain ⟨i, a, s, c⟩ := k
  obtain ⟨h1, h2, h3⟩ := id h
  dsimp only at h1 h2 h3
  obtain ⟨m, rfl⟩ : ∃ m : Nat, i = m := ⟨i.toNat, by omega⟩
  have hm : m < 65536 := by omega
  have htn : (m : Int).toNat = m := by omega
  unfold keyB
  dsimp only
  rw [htn, digs2']
  rcases h3 with ⟨ha, hn, hc⟩ | ⟨ha, hn, hc⟩ | ⟨ha, hn, hc, hc8⟩
  · subst ha hn hc
    rw [if_neg (by decide), if_neg (by decide)]
    simp only [List.append_nil, List.cons_append, List.nil_append, getKeyS]
    rw [if_neg (by decide), if_neg (by decide), two_bytes' hm]
    exact if_pos h
  · subst ha hc
    have hl : s.data.toList.length ≤ 12 := hn.2.2.1
    rw [if_pos rfl]
    simp only [List.cons_append, List.nil_append, getKeyS]
    rw [if_pos trivial, rowS_put _ _ (by omega), two_bytes' hm]
    dsimp only
    rw [if_neg (by omega)]
    have hs : (⟨s.data.toList.toArray⟩ : ByteArray) = s := by cases s; simp
    rw [hs]
    exact if_pos h
  · subst ha hn
    obtain ⟨z, rfl⟩ : ∃ z : Nat, c = z := ⟨c.toNat, by omega⟩
    have hz : (UInt8.ofNat (z : Int).toNat).toNat = z := by rw [UInt8.toNat_ofNat']; omega
    rw [if_neg (by decide), if_pos rfl]
    simp only [List.cons_append, List.nil_append, getKeyS]
    rw [if_neg (by decide), if_pos trivial, two_bytes' hm, hz]
    exact if_pos h
theorem oneS_put {c : Chg} (h : chgOk c) (r : List UInt8) : oneS (some (chgB c ++ r)) = (c, 0, some r) := by
  obtain ⟨k, v, gn⟩ := c
  obtain ⟨h1, h2⟩ := h
  dsimp only at h1
  cases gn with
  | true =>
    have h3 : v.length = 0 := h2
    have hv : v = [] := List.eq_nil_of_length_eq_zero h3
    subst hv
    have hb : chgB ⟨k, [], true⟩ ++ r = 0 :: (keyB k ++ r) := rfl
    rw [hb]
    unfold oneS
    dsimp only
    rw [getKeyS_put h1]
    simp
  | false =>
    have h3 : 1 ≤ v.length ∧ v.length ≤ 255 := h2
    have hb : chgB ⟨k, v, false⟩ ++ r = 1 :: (keyB k ++ (UInt8.ofNat v.length :: (v ++ r))) := by simp [chgB]
    rw [hb]
    unfold oneS
    dsimp only
    rw [getKeyS_put h1, rowS_put _ _ h3.2]
    dsimp only
    rw [if_neg (by decide), if_neg (by simp), if_neg (by simp; intro hv; rw [hv] at h3; simp at h3)]
theorem getsGo_put : ∀ (cs : List Chg) (r : List UInt8), (∀ c ∈ cs, chgOk c) → getsGo cs.length (some (cs.flatMap chgB ++ r)) = (cs, 0, some r)
  | [], r, _ => rfl
  | c :: cs, r, h => by
    have ih := getsGo_put cs r fun x hx => h x (by simp [hx])
    have hc := oneS_put (h c (by simp)) (cs.flatMap chgB ++ r)
    rw [List.flatMap_cons, List.append_assoc, List.length_cons, getsGo, hc]
    dsimp only
    rw [if_neg (by simp), ih]
    dsimp only
    rw [if_neg (by simp)]
theorem getRecS_put {cs : List Chg} (h : bodyOk cs) : getRecS (bodyB cs) = (cs, 0) := by
  obtain ⟨h1, h2, h3⟩ := h
  have hn : (UInt8.ofNat cs.length).toNat = cs.length := by rw [UInt8.toNat_ofNat']; omega
  have hg := getsGo_put cs [] h3
  rw [List.append_nil] at hg
  unfold bodyB getRecS
  dsimp only
  rw [hn, if_neg (by omega), hg]
  dsimp only
  rw [if_neg (by simp), if_neg (by simp [leftS])]
end Go.Proofs.Ytegoeagmadhpgaa
