import Derived.Test.YtdagdjaefgadfaaRecUM
import Derived.Test.YtdagdjaefgadfaaMBase
import Derived.Test.YtdagdjaefgadfaaRecDM
import Derived.Test.YtdagdjaefgadfaaRecOM
set_option linter.unusedVariables false
set_option linter.unusedSimpArgs false
/- Layer 11: pages that are put, what they say; plain. -/
namespace Go.Proofs.Ytdagdjaefgadfaa
open Go.RowKit

theorem putPage_said {s : Int} {k : UInt8} {b p : List UInt8} (h : putPageS s k b = (p, 0)) : getS p = (k.toNat, b, 0) ∧ 128 ≤ p.length ∧ p.length ≤ 256 ∧ b.length ≤ 251 := by
  obtain ⟨h1, h2, h3, h4, h5, h6⟩ := putPageS_ok (s := s) (kind := k) (body := b) (by rw [h])
  rw [h] at h6
  have hp : p = pageS s.toNat k b := (Prod.mk.inj h6).1
  have hs : isPage s.toNat := by unfold isPage; omega
  have hl := pageS_length (kind := k) hs h5
  rw [hp]
  exact ⟨getS_page hs h3 h4 h5, by omega, by omega, by omega⟩
theorem recPut_said {s : Int} {l : List Chg} {p : List UInt8} (h : recPutS s l = (p, 0)) : bodyOk l ∧ getS p = (2, bodyB l, 0) ∧ 128 ≤ p.length ∧ p.length ≤ 256 ∧ (bodyB l).length ≤ 251 := by
  unfold recPutS at h
  split at h
  · rename_i hb
    obtain ⟨h1, h2, h3, h4⟩ := putPage_said h
    exact ⟨hb, h1, h2, h3, h4⟩
  · simp at h
theorem recPut_256 {l : List Chg} (h : bodyOk l) (hl : (bodyB l).length ≤ 251) : ∃ p, recPutS 256 l = (p, 0) := by
  unfold recPutS
  rw [if_pos h]
  have := putPageS_mk (s := 256) (kind := 2) (body := bodyB l) (by unfold isPage; omega) (by decide) (by decide) (by omega)
  exact ⟨_, this⟩
theorem recPutS_code' (s : Int) (cs : List Chg) : (recPutS s cs).2 ≤ 3 := by
  unfold recPutS
  split
  · exact putPageS_code _ _ _
  · simp
theorem leval_digs' (n : Nat) : ∀ s, leval (digs n s) = n % 256 ^ s := by
  intro s
  induction s generalizing n with
  | zero => simp [digs, leval, Nat.mod_one]
  | succ s ih =>
    have e : digs n (s + 1) = UInt8.ofNat n :: digs (n / 256) s := by
      unfold digs
      rw [List.range_succ_eq_map]
      simp only [List.map_cons, List.map_map, Nat.pow_zero, Nat.div_one, List.cons.injEq, true_and]
      apply List.map_congr_left
      intro a _
      simp only [Function.comp_apply, Nat.pow_succ]
      rw [Nat.mul_comm, Nat.div_div_eq_div_mul]
    have h256 : (UInt8.ofNat n).toNat = n % 256 := UInt8.toNat_ofNat'
    rw [e, leval, ih, h256, Nat.pow_succ, Nat.mul_comm (256 ^ s) 256, Nat.mod_mul]
theorem drop_said {s : Int} {q : Nat} {p : List UInt8} (hq : q < 18446744073709551616) (h : putDropS s q = (p, 0)) : getS p = (3, digs q 8, 0) ∧ 128 ≤ p.length ∧ p.length ≤ 256 ∧ getDropS (digs q 8) = (q, 0) := by
  unfold putDropS at h
  split at h
  · simp at h
  · rename_i h0
    obtain ⟨h1, h2, h3, _⟩ := putPage_said h
    refine ⟨h1, h2, h3, ?_⟩
    have hl : leval (digs q 8) = q := by rw [leval_digs', e8]; omega
    unfold getDropS
    rw [digs_length, hl, if_neg (by omega)]
theorem putDropS_code' (s : Int) (q : Nat) : (putDropS s q).2 ≤ 3 := by
  unfold putDropS
  split
  · simp
  · exact putPageS_code _ _ _
theorem getsGo_len' : ∀ (k : Nat) (st : Option (List UInt8)), (getsGo k st).1.length ≤ k
  | 0, st => by simp [getsGo]
  | k + 1, st => by
    have ih := getsGo_len' k (oneS st).2.2
    rw [getsGo]
    split
    · simp
    · split
      · simp
      · simp; omega
theorem getsGo_code' : ∀ (k : Nat) (st : Option (List UInt8)), (getsGo k st).2.1 ≤ 5
  | 0, st => by simp [getsGo]
  | k + 1, st => by
    have ih := getsGo_code' k (oneS st).2.2
    have h1 := oneS_code st getKeyS_code
    rw [getsGo]
    split
    · exact h1
    · split
      · exact ih
      · simp
theorem getRecS_bd' (xs : List UInt8) : (getRecS xs).1.length ≤ 255 ∧ (getRecS xs).2 ≤ 5 := by
  unfold getRecS
  cases xs with
  | nil => simp
  | cons n r =>
    dsimp only
    have h1 := getsGo_len' n.toNat (some r)
    have h2 := getsGo_code' n.toNat (some r)
    have h3 := n.toNat_lt
    split
    · simp
    · split
      · exact ⟨by simp, h2⟩
      · split
        · simp
        · exact ⟨by dsimp only; omega, by simp⟩
end Go.Proofs.Ytdagdjaefgadfaa
