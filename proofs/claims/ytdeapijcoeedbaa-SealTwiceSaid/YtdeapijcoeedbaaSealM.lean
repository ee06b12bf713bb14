/- Layer 2, plain: more bits that are 1 make no page of what is none. -/
import Derived.Test.YtdeapijcoeedbaaSealB
set_option linter.unusedVariables false
set_option linter.unusedSimpArgs false
namespace Go.Proofs.Ytdeapijcoeedbaa

/-- Bits laid over bytes, round and round. -/
def maskS (m p : List UInt8) : List UInt8 := p.mapIdx fun i b => b ||| m.getD (i % m.length) 0
theorem maskS_length (m p : List UInt8) : (maskS m p).length = p.length := by simp [maskS]
theorem maskS_up (m p : List UInt8) : Up p (maskS m p) := by
  refine ⟨(maskS_length m p).symm, fun i a b ha hb => ?_⟩
  unfold maskS at hb
  rw [List.getElem?_mapIdx, ha] at hb
  injection hb with hb
  exact ⟨_, hb.symm⟩
theorem maskS_get {m p : List UInt8} {j : Nat} {a b : UInt8} (ha : p[j]? = some a) (hb : m[j % m.length]? = some b) : (maskS m p)[j]? = some (a ||| b) := by
  unfold maskS
  rw [List.getElem?_mapIdx, ha, List.getD_eq_getElem?_getD, hb]
  rfl
theorem or_ge (a x : UInt8) : a.toNat ≤ (a ||| x).toNat := by
  rw [UInt8.toNat_or]
  exact Nat.left_le_or
theorem Up.cons2 {a b : UInt8} {l m : List UInt8} (h : Up (a :: l) m) : ∃ x m', m = (a ||| x) :: m' ∧ Up l m' := by
  match m, h with
  | [], h => have := h.1; simp at this
  | b :: m', h =>
    obtain ⟨⟨x, rfl⟩, h2⟩ := Up.cons h
    exact ⟨x, m', rfl, h2⟩

/-- What has more bits than a page is the page, or blank, or torn. -/
theorem sure {s : Nat} {kind : UInt8} {body q : List UInt8} (hs : isPage s) (hk1 : 1 ≤ kind.toNat) (hk7 : kind.toNat ≤ 7) (hb : body.length ≤ s - 5) (h : Up (pageS s kind body) q) (hne : q ≠ pageS s kind body) :
    (blankS q ∧ getS q = (0, [], 6)) ∨ (¬ blankS q ∧ getS q = (0, [], 7)) := by
  have hl := pageS_length (kind := kind) hs hb
  have htl := tailS_length (kind := kind) hs hb
  have hN := noughts_le (tailS s kind body)
  have hql : q.length = s := by rw [← h.1, hl]
  by_cases hbq : blankS q
  · refine .inl ⟨hbq, ?_⟩
    unfold getS
    rw [if_neg (Classical.not_not.2 (hql ▸ hs)), if_pos hbq]
  · refine .inr ⟨hbq, ?_⟩
    have ht2 : (pageS s kind body) = UInt8.ofNat (noughts (tailS s kind body)) :: UInt8.ofNat (noughts (tailS s kind body) / 256) :: tailS s kind body := by
      unfold pageS
      rw [digs2]
      rfl
    have hp := hs
    unfold isPage at hp
    have h2 := two_bytes (n := noughts (tailS s kind body)) (by omega)
    rw [ht2] at h hne
    generalize UInt8.ofNat (noughts (tailS s kind body)) = c0 at *
    generalize UInt8.ofNat (noughts (tailS s kind body) / 256) = c1 at *
    obtain ⟨x0, q1, rfl, hu1⟩ := h.cons2 (b := 0)
    obtain ⟨x1, q2, rfl, hu2⟩ := hu1.cons2 (b := 0)
    have hnn := hu2.noughts
    have g0 := or_ge c0 x0
    have g1 := or_ge c1 x1
    unfold getS
    rw [if_neg (Classical.not_not.2 (hql ▸ hs)), if_neg hbq]
    simp only [List.getD_cons_zero, List.getD_cons_succ, List.drop_succ_cons, List.drop_zero]
    rw [if_pos]
    intro he
    have e1 : noughts q2 = noughts (tailS s kind body) := by omega
    have e2 := hnn.2 e1
    have e3 : (c0 ||| x0) = c0 := UInt8.toNat.inj (by omega)
    have e4 : (c1 ||| x1) = c1 := UInt8.toNat.inj (by omega)
    exact hne (by rw [e2, e3, e4])

/-! ### a row that is overlaid from its head -/
theorem over_set {α : Type} {z f : List α} {j : Nat} {b : α} (hl : z.length = f.length) (hz : z[j]? = some b) : (z.take j ++ f.drop j).set j b = z.take (j + 1) ++ f.drop (j + 1) := by
  have hj : j < z.length := (List.getElem?_eq_some_iff.1 hz).1
  have htl : (z.take j).length = j := by rw [List.length_take]; omega
  rw [List.set_append_right _ _ (by omega), htl, Nat.sub_self, List.drop_eq_getElem_cons (by omega : j < f.length), List.set_cons_zero, List.take_add_one, hz]
  simp
theorem over_get {α : Type} {z f : List α} {j : Nat} (hl : z.length = f.length) (hj : j < f.length) : (z.take j ++ f.drop j)[j]? = f[j]? := by
  have htl : (z.take j).length = j := by rw [List.length_take]; omega
  rw [List.getElem?_append_right (by omega), htl, Nat.sub_self, List.getElem?_drop, Nat.add_zero]
end Go.Proofs.Ytdeapijcoeedbaa
