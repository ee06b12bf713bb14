/- Layer 17, plain: a point's bytes say the point. -/
import Derived.Test.YtakjjfohjodepaaWorks17
import Derived.Test.YtakjjfohjodepaaPointE
import Derived.Test.YtakjjfohjodepaaSealB
set_option linter.unusedVariables false
set_option linter.unusedSimpArgs false
namespace Go.Proofs.Ytakjjfohjodepaa
open Go.RowKit

theorem leval_digs (n : Nat) : ∀ s, leval (digs n s) = n % 256 ^ s := by
  have H : ∀ s m, leval (digs m s) = m % 256 ^ s := by
    intro s
    induction s with
    | zero => intro m; simp [digs, leval, Nat.mod_one]
    | succ s ih =>
      intro m
      have e : digs m (s + 1) = UInt8.ofNat m :: digs (m / 256) s := by
        unfold digs
        rw [List.range_succ_eq_map]
        simp only [List.map_cons, List.map_map, Nat.pow_zero, Nat.div_one]
        congr 1
        apply List.map_congr_left
        intro i _
        simp only [Function.comp, Nat.pow_succ, Nat.div_div_eq_div_mul]
        rw [Nat.mul_comm]
      rw [e]
      simp only [leval, ih, UInt8.toNat_ofNat']
      rw [show (256 : Nat) ^ (s + 1) = 256 * 256 ^ s from by rw [Nat.pow_succ, Nat.mul_comm], Nat.mod_mul]
  exact fun s => H s n

/-- A point that may be: its bytes say it. -/
theorem getPoint_put {n : Nat} {b p c : Nat} (hn : n < 18446744073709551616) (h : mayP n b p c) : getPointS (pointB n b p c) = ((n, b, p, c), 0) := by
  have h' := h
  obtain ⟨h1, h2, h3, h4, h5, h6, h7, _⟩ := h'
  have hnum : numsOf (pointB n b p c) = (n, b, p, c) := by
    have e0 : pointB n b p c = digs n 8 ++ (digs b 1 ++ (digs p 1 ++ (digs c 2 ++ []))) := by simp [pointB, laidS]
    unfold numsOf
    rw [e0, List.take_left' (digs_length n 8), List.drop_left' (digs_length n 8), List.take_left' (digs_length b 1), List.drop_left' (digs_length b 1), List.take_left' (digs_length p 1), List.drop_left' (digs_length p 1), List.take_left' (digs_length c 2),
      leval_digs, leval_digs, leval_digs, leval_digs]
    have e8 : (256 : Nat) ^ 8 = 18446744073709551616 := by decide
    have e2 : (256 : Nat) ^ 2 = 65536 := by decide
    rw [e8, e2, Nat.pow_one, Nat.mod_eq_of_lt hn, Nat.mod_eq_of_lt (by omega), Nat.mod_eq_of_lt (by omega), Nat.mod_eq_of_lt (by omega)]
  unfold getPointS
  rw [if_neg (by rw [pointB_length]; omega), hnum, if_pos ⟨h, pointB_length _ _ _ _⟩]

/-- Bytes that say a point are its bytes. -/
theorem digs_leval : ∀ (l : List UInt8), digs (leval l) l.length = l
  | [] => rfl
  | a :: r => by
    have ih := digs_leval r
    have ha := a.toNat_lt
    have e : digs (leval (a :: r)) (r.length + 1) = UInt8.ofNat (leval (a :: r)) :: digs (leval (a :: r) / 256) r.length := by
      unfold digs
      rw [List.range_succ_eq_map]
      simp only [List.map_cons, List.map_map, Nat.pow_zero, Nat.div_one]
      congr 1
      apply List.map_congr_left
      intro i _
      simp only [Function.comp, Nat.pow_succ, Nat.div_div_eq_div_mul]
      rw [Nat.mul_comm]
    rw [List.length_cons, e]
    have h1 : leval (a :: r) / 256 = leval r := by simp only [leval]; omega
    have h2 : UInt8.ofNat (leval (a :: r)) = a := by
      apply UInt8.toNat.inj
      rw [UInt8.toNat_ofNat']
      simp only [leval]
      omega
    rw [h1, h2, ih]
theorem putPoint_get {xs : List UInt8} (h : (getPointS xs).2 = 0) : xs.length = 12 ∧ ∃ n b p c : Nat, getPointS xs = ((n, b, p, c), 0) ∧ n < 18446744073709551616 ∧ mayP n b p c ∧ pointB n b p c = xs := by
  unfold getPointS at h ⊢
  split at h
  · cases h
  · rename_i h12
    split at h
    · rename_i hm
      obtain ⟨hm, h12'⟩ := hm
      refine ⟨h12', (numsOf xs).1, (numsOf xs).2.1, (numsOf xs).2.2.1, (numsOf xs).2.2.2, ?_, ?_, hm, ?_⟩
      · rw [if_neg h12, if_pos ⟨hm, h12'⟩]
      · exact leval_lt64 _ (by rw [List.length_take]; omega)
      · have e : ∀ (l : List UInt8) (k : Nat), k ≤ l.length → digs (leval (l.take k)) k = l.take k := fun l k hk => by
          have h1 := digs_leval (l.take k)
          rwa [List.length_take, Nat.min_eq_left hk] at h1
        simp only [pointB, laidS, List.flatMap_cons, List.flatMap_nil, Int.toNat_natCast, numsOf]
        rw [e _ 8 (by omega), e _ 1 (by simp; omega), e _ 1 (by simp; omega), e _ 2 (by simp; omega)]
        have hd : (((xs.drop 8).drop 1).drop 1).take 2 = ((xs.drop 8).drop 1).drop 1 := List.take_of_length_le (by simp; omega)
        rw [hd, List.append_nil, List.take_append_drop, List.take_append_drop, List.take_append_drop]
    · cases h
theorem getPoint_no {xs : List UInt8} (h : (getPointS xs).2 ≠ 0) : (getPointS xs).1 = (0, 0, 0, 0) := by
  unfold getPointS at h ⊢
  split
  · rfl
  · rename_i h1
    rw [if_neg h1] at h
    split
    · rename_i h2
      rw [if_pos h2] at h
      exact absurd rfl h
    · rfl
end Go.Proofs.Ytakjjfohjodepaa
