/- Keys stand in a row, plain. -/
import Derived.Test.YtlioclicopakbaaKeyS
set_option linter.unusedVariables false
set_option linter.unusedSimpArgs false
namespace Go.Proofs.Ytlioclicopakbaa
open Go.RowKit

theorem u8_lt (a b : UInt8) : a < b ↔ a.toNat < b.toNat := UInt8.lt_iff_toNat_lt
theorem bless_irrefl : ∀ x : List UInt8, Op.bytesLess x x = false
  | [] => rfl
  | a :: x => by simp [Op.bytesLess, bless_irrefl x, u8_lt]
theorem bless_trans : ∀ x y z : List UInt8, Op.bytesLess x y = true → Op.bytesLess y z = true → Op.bytesLess x z = true
  | _, [], _, h, _ => by simp [Op.bytesLess] at h
  | _, _ :: _, [], _, h => by simp [Op.bytesLess] at h
  | [], _ :: _, _ :: _, _, _ => rfl
  | a :: x, b :: y, c :: z, h, k => by
    simp only [Op.bytesLess, Bool.or_eq_true, decide_eq_true_eq, Bool.and_eq_true, beq_iff_eq, u8_lt] at h k ⊢
    rcases h with h | ⟨rfl, h⟩
    · rcases k with k | ⟨rfl, k⟩
      · left; omega
      · left; exact h
    · rcases k with k | ⟨rfl, k⟩
      · left; exact k
      · right; exact ⟨rfl, bless_trans x y z h k⟩
theorem bless_total : ∀ x y : List UInt8, x = y ∨ Op.bytesLess x y = true ∨ Op.bytesLess y x = true
  | [], [] => .inl rfl
  | [], _ :: _ => .inr (.inl rfl)
  | _ :: _, [] => .inr (.inr rfl)
  | a :: x, b :: y => by
    simp only [Op.bytesLess, Bool.or_eq_true, decide_eq_true_eq, Bool.and_eq_true, beq_iff_eq, u8_lt, List.cons.injEq]
    by_cases h : a = b
    · subst h
      rcases bless_total x y with h | h | h
      · exact .inl ⟨rfl, h⟩
      · exact .inr (.inl (.inr ⟨rfl, h⟩))
      · exact .inr (.inr (.inr ⟨rfl, h⟩))
    · have : a.toNat ≠ b.toNat := fun e => h (UInt8.toNat.inj e)
      rcases Nat.lt_or_gt_of_ne this with h | h
      · exact .inr (.inl (.inl h))
      · exact .inr (.inr (.inl h))
theorem ba_ext {a b : ByteArray} (h : a.toList = b.toList) : a = b := by
  rw [ByteArray.toList_eq, ByteArray.toList_eq] at h
  exact ByteArray.ext (Array.toList_inj.1 h)
theorem keyLt_iff (a b : Ky) : keyLt a b ↔ a.ino < b.ino ∨ a.ino = b.ino ∧ (a.what.toNat < b.what.toNat ∨ a.what = b.what ∧ (Op.bytesLess a.name.toList b.name.toList = true ∨ a.name = b.name ∧ a.chunk < b.chunk)) := by
  have c1 : ∀ x y : Int, cmpI x y = 0 ↔ x = y := fun x y => by
    unfold cmpI; split
    · simp; omega
    · split
      · simp; omega
      · simp; omega
  have c2 : ∀ x y : Int, cmpI x y < 0 ↔ x < y := fun x y => by
    unfold cmpI; split
    · simp; omega
    · split
      · simp; omega
      · simp; omega
  have b1 : ∀ x y : ByteArray, cmpB x y = 0 ↔ x = y := fun x y => by
    unfold cmpB; split
    · rename_i h
      constructor
      · intro h'; cases h'
      · rintro rfl; rw [bless_irrefl] at h; cases h
    · split
      · rename_i h; exact ⟨fun _ => ba_ext h, fun _ => rfl⟩
      · rename_i h
        constructor
        · intro h'; cases h'
        · rintro rfl; exact absurd rfl h
  have b2 : ∀ x y : ByteArray, cmpB x y < 0 ↔ Op.bytesLess x.toList y.toList = true := fun x y => by
    unfold cmpB; split
    · rename_i h; simp [h]
    · rename_i h
      split
      · simp [h]
      · simp [h]
  have w : (a.what.toNat : Int) = b.what.toNat ↔ a.what = b.what := ⟨fun h => UInt8.toNat.inj (by omega), fun h => by rw [h]⟩
  unfold keyLt ordK
  simp only [orI, c1, w, b1]
  by_cases h1 : a.ino = b.ino
  · simp only [h1, if_true, true_and, Int.lt_irrefl, false_or]
    by_cases h2 : a.what = b.what
    · simp only [h2, if_true, true_and, Nat.lt_irrefl, false_or]
      by_cases h3 : a.name = b.name
      · have hi := bless_irrefl b.name.toList
        simp only [h3, if_true, true_and, hi, Bool.false_eq_true, false_or]
        by_cases h4 : a.chunk = b.chunk
        · simp [h4]
        · simp only [if_neg h4, c2]
      · simp only [h3, if_false, b2, false_and, or_false]
    · simp only [h2, if_false, c2, false_and, or_false]
      omega
  · simp only [h1, if_false, c2, false_and, or_false]
theorem keyLt_irrefl (a : Ky) : ¬ keyLt a a := by
  rw [keyLt_iff, bless_irrefl]
  simp
theorem keyLt_trans {a b c : Ky} (h : keyLt a b) (k : keyLt b c) : keyLt a c := by
  rw [keyLt_iff] at h k ⊢
  rcases h with h | ⟨h1, h⟩
  · rcases k with k | ⟨k1, k⟩
    · left; omega
    · left; omega
  · rcases k with k | ⟨k1, k⟩
    · left; omega
    · refine .inr ⟨h1.trans k1, ?_⟩
      rcases h with h | ⟨h2, h⟩
      · rcases k with k | ⟨k2, k⟩
        · left; omega
        · left; rw [← k2]; exact h
      · rcases k with k | ⟨k2, k⟩
        · left; rw [h2]; exact k
        · refine .inr ⟨h2.trans k2, ?_⟩
          rcases h with h | ⟨h3, h⟩
          · rcases k with k | ⟨k3, k⟩
            · exact .inl (bless_trans _ _ _ h k)
            · left; rw [← k3]; exact h
          · rcases k with k | ⟨k3, k⟩
            · left; rw [h3]; exact k
            · exact .inr ⟨h3.trans k3, by omega⟩
theorem keyLt_total (a b : Ky) : a = b ∨ keyLt a b ∨ keyLt b a := by
  rw [keyLt_iff, keyLt_iff]
  rcases Int.lt_trichotomy a.ino b.ino with h | h | h
  · exact .inr (.inl (.inl h))
  · by_cases h2 : a.what = b.what
    · rcases bless_total a.name.toList b.name.toList with h3 | h3 | h3
      · rcases Int.lt_trichotomy a.chunk b.chunk with h4 | h4 | h4
        · exact .inr (.inl (.inr ⟨h, .inr ⟨h2, .inr ⟨ba_ext h3, h4⟩⟩⟩))
        · left
          obtain ⟨a1, a2, a3, a4⟩ := a
          obtain ⟨b1, b2, b3, b4⟩ := b
          simp only at h h2 h4
          have := ba_ext h3
          simp only at this
          rw [h, h2, h4, this]
        · exact .inr (.inr (.inr ⟨h.symm, .inr ⟨h2.symm, .inr ⟨(ba_ext h3).symm, h4⟩⟩⟩))
      · exact .inr (.inl (.inr ⟨h, .inr ⟨h2, .inl h3⟩⟩))
      · exact .inr (.inr (.inr ⟨h.symm, .inr ⟨h2.symm, .inl h3⟩⟩))
    · have : a.what.toNat ≠ b.what.toNat := fun e => h2 (UInt8.toNat.inj e)
      rcases Nat.lt_or_gt_of_ne this with h3 | h3
      · exact .inr (.inl (.inr ⟨h, .inl h3⟩))
      · exact .inr (.inr (.inr ⟨h.symm, .inl h3⟩))
  · exact .inr (.inr (.inl h))
theorem keyLt_asymm {a b : Ky} (h : keyLt a b) : ¬ keyLt b a := fun k => keyLt_irrefl a (keyLt_trans h k)
theorem keyLt_ne {a b : Ky} (h : keyLt a b) : a ≠ b := fun e => keyLt_irrefl a (by rw [← e] at h; exact h)
end Go.Proofs.Ytlioclicopakbaa
