import Derived.Test.YtlcdabmclcfagaaMBase
import Derived.Test.YtlcdabmclcfagaaProg
set_option linter.unusedVariables false
set_option linter.unusedSimpArgs false
/- Layer 2, plain: noughts, blank, pages, what pages say, what is less. No program in sight. -/
namespace Go.Proofs.Ytlcdabmclcfagaa

/-- How many of the lowest j bits are 0. -/
def zerosTo (n : Nat) : Nat → Nat
  | 0 => 0
  | j + 1 => zerosTo n j + if n / 2 ^ j % 2 = 0 then 1 else 0
def zeros (b : UInt8) : Nat := zerosTo b.toNat 8
def noughts : List UInt8 → Nat
  | [] => 0
  | b :: r => zeros b + noughts r
theorem noughts_append (l m : List UInt8) : noughts (l ++ m) = noughts l + noughts m := by
  induction l with
  | nil => simp [noughts]
  | cons a l ih => simp only [List.cons_append, noughts, ih]; omega
theorem zerosTo_le (n j : Nat) : zerosTo n j ≤ j := by
  induction j with
  | zero => simp [zerosTo]
  | succ j ih => simp only [zerosTo]; split <;> omega
theorem zeros_le (b : UInt8) : zeros b ≤ 8 := zerosTo_le _ _
theorem noughts_le (l : List UInt8) : noughts l ≤ 8 * l.length := by
  induction l with
  | nil => simp [noughts]
  | cons a l ih => have := zeros_le a; simp only [noughts, List.length_cons]; omega

theorem zerosTo_bit (n j : Nat) : zerosTo n (j + 1) = zerosTo n j + if n.testBit j then 0 else 1 := by
  simp only [zerosTo, Nat.testBit_eq_decide_div_mod_eq]
  have : n / 2 ^ j % 2 = 0 ∨ n / 2 ^ j % 2 = 1 := by omega
  rcases this with h | h <;> simp [h]
/-- More bits that are 1: fewer noughts; as many, just where nothing has turned. -/
theorem zerosTo_or (n m j : Nat) : zerosTo (n ||| m) j ≤ zerosTo n j ∧ (zerosTo (n ||| m) j = zerosTo n j → ∀ i, i < j → (n ||| m).testBit i = n.testBit i) := by
  induction j with
  | zero => exact ⟨Nat.le_refl _, fun _ i hi => absurd hi (Nat.not_lt_zero _)⟩
  | succ j ih =>
    have hb : (n ||| m).testBit j = (n.testBit j || m.testBit j) := Nat.testBit_or n m j
    rw [zerosTo_bit, zerosTo_bit, hb]
    obtain ⟨h1, h2⟩ := ih
    refine ⟨?_, fun he i hi => ?_⟩
    · cases n.testBit j <;> cases m.testBit j <;> simp <;> omega
    · have hj : zerosTo (n ||| m) j = zerosTo n j ∧ (n.testBit j || m.testBit j) = n.testBit j := by
        cases hn : n.testBit j <;> cases hm : m.testBit j <;> simp [hn, hm] at he ⊢ <;> omega
      rcases Nat.lt_succ_iff_lt_or_eq.1 hi with h | rfl
      · exact h2 hj.1 i h
      · rw [hb, hj.2]
theorem testBit_big (b : UInt8) (i : Nat) (hi : 8 ≤ i) : b.toNat.testBit i = false := by
  apply Nat.testBit_lt_two_pow
  have := b.toNat_lt
  exact Nat.lt_of_lt_of_le this (Nat.pow_le_pow_right (by decide) hi)
theorem zeros_or (a m : UInt8) : zeros (a ||| m) ≤ zeros a ∧ (zeros (a ||| m) = zeros a → a ||| m = a) := by
  have e : (a ||| m).toNat = a.toNat ||| m.toNat := UInt8.toNat_or a m
  unfold zeros
  rw [e]
  refine ⟨(zerosTo_or _ _ _).1, fun h => ?_⟩
  apply UInt8.toNat.inj
  rw [e]
  apply Nat.eq_of_testBit_eq
  intro i
  by_cases hi : i < 8
  · exact (zerosTo_or _ _ _).2 h i hi
  · rw [Nat.testBit_or, testBit_big a i (by omega), testBit_big m i (by omega)]
    rfl

/-- Bytes with more bits that are 1. -/
def Up (l m : List UInt8) : Prop := l.length = m.length ∧ ∀ (i : Nat) (a b : UInt8), l[i]? = some a → m[i]? = some b → ∃ x : UInt8, b = a ||| x
theorem Up.cons {a b : UInt8} {l m : List UInt8} (h : Up (a :: l) (b :: m)) : (∃ x, b = a ||| x) ∧ Up l m :=
  ⟨h.2 0 a b rfl rfl, by have := h.1; simpa using this, fun i x y hx hy => h.2 (i + 1) x y hx hy⟩
theorem Up.noughts {l m : List UInt8} (h : Up l m) : noughts m ≤ noughts l ∧ (noughts m = noughts l → m = l) := by
  induction l generalizing m with
  | nil =>
    have : m = [] := List.eq_nil_of_length_eq_zero h.1.symm
    subst this
    exact ⟨Nat.le_refl _, fun _ => rfl⟩
  | cons a l ih =>
    cases m with
    | nil => have := h.1; simp at this
    | cons b m =>
      obtain ⟨⟨x, rfl⟩, h2⟩ := h.cons
      obtain ⟨h3, h4⟩ := ih h2
      obtain ⟨h5, h6⟩ := zeros_or a x
      simp only [Proofs.Ytlcdabmclcfagaa.noughts]
      refine ⟨by omega, fun he => ?_⟩
      rw [h6 (by omega), h4 (by omega)]
theorem Up.refl (l : List UInt8) : Up l l := ⟨rfl, fun i a b ha hb => ⟨0, by rw [ha] at hb; injection hb with hb; rw [← hb]; simp⟩⟩
theorem Up.trans {l m n : List UInt8} (h : Up l m) (k : Up m n) : Up l n :=
  ⟨h.1.trans k.1, fun i a c ha hc => by
    have hi : i < m.length := by rw [← h.1]; exact (List.getElem?_eq_some_iff.1 ha).1
    obtain ⟨x, hx⟩ := h.2 i a m[i] ha (List.getElem?_eq_getElem hi)
    obtain ⟨y, hy⟩ := k.2 i m[i] c (List.getElem?_eq_getElem hi) hc
    exact ⟨x ||| y, by rw [hy, hx, UInt8.or_assoc]⟩⟩
theorem Up.drop {l m : List UInt8} (h : Up l m) (n : Nat) : Up (l.drop n) (m.drop n) :=
  ⟨by rw [List.length_drop, List.length_drop, h.1], fun i a b ha hb => h.2 (n + i) a b (by rw [← ha, List.getElem?_drop]) (by rw [← hb, List.getElem?_drop])⟩

/-! ### pages -/
def isPage (n : Nat) : Prop := 128 ≤ n ∧ n ≤ 256
instance (n : Nat) : Decidable (isPage n) := by unfold isPage; exact inferInstance
/-- All but the count. -/
def tailS (size : Nat) (kind : UInt8) (body : List UInt8) : List UInt8 := kind :: (digs body.length 2 ++ (body ++ List.replicate (size - 5 - body.length) 255))
def pageS (size : Nat) (kind : UInt8) (body : List UInt8) : List UInt8 := digs (noughts (tailS size kind body)) 2 ++ tailS size kind body
def blankS (b : List UInt8) : Prop := ∀ x ∈ b, x = 255
instance (b : List UInt8) : Decidable (blankS b) := by unfold blankS; exact inferInstance
theorem digs2 (n : Nat) : digs n 2 = [UInt8.ofNat n, UInt8.ofNat (n / 256)] := by simp [digs, List.range_succ]
theorem tailS_length {size : Nat} {kind : UInt8} {body : List UInt8} (hs : isPage size) (hb : body.length ≤ size - 5) : (tailS size kind body).length = size - 2 := by
  unfold isPage at hs
  simp [tailS, digs_length]
  omega
theorem pageS_length {size : Nat} {kind : UInt8} {body : List UInt8} (hs : isPage size) (hb : body.length ≤ size - 5) : (pageS size kind body).length = size := by
  unfold pageS
  rw [List.length_append, digs_length, tailS_length hs hb]
  unfold isPage at hs
  omega
/-- What bytes say: kind, body, error. -/
def getS (b : List UInt8) : Nat × List UInt8 × Nat :=
  if ¬ isPage b.length then (0, [], 2)
  else if blankS b then (0, [], 6)
  else if (b.getD 0 0).toNat + 256 * (b.getD 1 0).toNat ≠ noughts (b.drop 2) then (0, [], 7)
  else if (b.getD 2 0).toNat < 1 ∨ 7 < (b.getD 2 0).toNat ∨ b.length - 5 < (b.getD 3 0).toNat + 256 * (b.getD 4 0).toNat ∨ ¬ blankS (b.drop (5 + ((b.getD 3 0).toNat + 256 * (b.getD 4 0).toNat))) then (0, [], 5)
  else ((b.getD 2 0).toNat, (b.drop 5).take ((b.getD 3 0).toNat + 256 * (b.getD 4 0).toNat), 0)
def putPageS (size : Int) (kind : UInt8) (body : List UInt8) : List UInt8 × Nat :=
  if ¬ (128 ≤ size ∧ size ≤ 256) ∨ kind.toNat < 1 ∨ 7 < kind.toNat then ([], 2)
  else if size.toNat - 5 < body.length then ([], 3)
  else (pageS size.toNat kind body, 0)
def bodyS (size : Int) : Nat := if 128 ≤ size ∧ size ≤ 256 then size.toNat - 5 else 0
end Go.Proofs.Ytlcdabmclcfagaa

/- Layer 2: contract of seal.Blank. -/
namespace Go.Proofs.Ytlcdabmclcfagaa
open Go.RowKit

theorem blank_take {l : List UInt8} {j : Nat} (h : j < l.length) (hb : blankS (l.take j)) (he : l[j] = 255) : blankS (l.take (j + 1)) := by
  rw [List.take_add_one, List.getElem?_eq_getElem h]
  intro x hx
  rcases List.mem_append.1 hx with hx | hx
  · exact hb x hx
  · simp at hx
    rw [hx, he]

set_option maxHeartbeats 400000 in
theorem blank_any (A : Option Addr) (c : Nat) (xs : List UInt8) (w : World) (hr : RV w A (bv xs)) (hx : xs.length ≤ maxLen) :
    Calls Try.prog 36 #[.slice A xs.length c] w fun e w' => e = .returned (.bool (decide (blankS xs))) ∧ w = w' := by
  unfold maxLen at hx
  have HR := Lib.hid hr
  clear hr
  go_enter Try.func36, Try.ntmps36
  go_wp2_with fail
  go_loopg [7] xs.length (fun k i wr => ∃ j : Nat, j + k = xs.length ∧ i = .int .i64 j ∧ wr = w ∧ blankS (xs.take j))
  case atStart => exact ⟨0, by omega, rfl, rfl, fun x hx => by cases hx⟩
  case round =>
    obtain ⟨j, hj, rfl, rfl, hb⟩ := hrel
    have HJ := Lib.hid (And.intro hj hb)
    clear hj hb
    by_cases hlt : j < xs.length
    · obtain ⟨ad, rfl, hcell⟩ := HR.out.at_ (k := j) (by rw [bv_length]; omega)
      have hbj : (bv xs)[j]'(by rw [bv_length]; omega) = .int .u8 (xs[j].toNat : Int) := by simp [bv]
      rw [hbj] at hcell
      by_cases he : xs[j] = 255
      · have hn := blank_take hlt HJ.out.2 he
        have h255 : ((xs[j].toNat : Int) != 255) = false := by rw [he]; rfl
        generalize xs[j].toNat = x at hcell h255
        have HN := Lib.hid hn
        clear hn hbj he
        go_wp2_with fail
        go_roundg (xs.length - (j + 1))
        case measure => have := HJ.out.1; omega
        case rel => exact ⟨j + 1, by have := HJ.out.1; omega, by go_num, rfl, HN.out⟩
      · have hn : ¬ blankS xs := fun h => he (h _ (List.getElem_mem hlt))
        have h255 : ((xs[j].toNat : Int) != 255) = true := by
          have : xs[j].toNat ≠ 255 := fun h => he (UInt8.toNat.inj h)
          simp
          omega
        generalize xs[j].toNat = x at hcell h255
        have HN := Lib.hid hn
        clear hn hbj he
        go_wp2_with fail
        go_ret
        exact ⟨ret_bool (decide_eq_false HN.out).symm, rfl⟩
    · have hjx : j = xs.length := by have := HJ.out.1; omega
      have hfin : blankS xs := by have := HJ.out.2; rwa [hjx, List.take_length] at this
      have HF := Lib.hid hfin
      clear hfin hjx
      go_wp2_with fail
      go_ret
      exact ⟨ret_bool (decide_eq_true HF.out).symm, rfl⟩

theorem blank_at (A : Option Addr) (n c : Nat) (xs : List UInt8) (w : World) (hn : xs.length = n) (hr : RV w A (bv xs)) (hx : n ≤ maxLen) :
    Calls Try.prog 36 #[.slice A n c] w fun e w' => e = .returned (.bool (decide (blankS xs))) ∧ w = w' := by
  subst hn
  exact blank_any A c xs w hr hx
end Go.Proofs.Ytlcdabmclcfagaa

/- Layer 2, plain: one byte more. -/
namespace Go.Proofs.Ytlcdabmclcfagaa
theorem noughts_take {l : List UInt8} {j : Nat} (h : j < l.length) : noughts (l.take (j + 1)) = noughts (l.take j) + zeros l[j] := by
  rw [List.take_add_one, List.getElem?_eq_getElem h, noughts_append]
  rfl
end Go.Proofs.Ytlcdabmclcfagaa
