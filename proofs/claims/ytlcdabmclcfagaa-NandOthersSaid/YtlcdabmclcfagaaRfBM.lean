import Derived.Test.YtlcdabmclcfagaaNdKM
import Derived.Test.YtlcdabmclcfagaaRfAM
set_option linter.unusedVariables false
set_option linter.unusedSimpArgs false
/- Layer 3: the document's bit: contract; bits of bytes, plain. -/
namespace Go.Proofs.Ytlcdabmclcfagaa
open Go.RowKit

/-- The bit of a mask that falls on the bit k of the byte j. -/
def bitS (h : Htt) (j k : Nat) : Bool := decide ((maskAt (some h) j).toNat / 2 ^ k % 2 = 1)
theorem maskAt_nil {h : Htt} (hm : h.mask = []) (j : Nat) : maskAt (some h) j = 0 := by
  unfold maskAt
  simp [hm]
theorem maskAt_some {h : Htt} {j : Nat} {m : UInt8} (hm : h.mask[j % h.mask.length]? = some m) : maskAt (some h) j = m := by
  unfold maskAt
  dsimp only
  rw [hm]
set_option maxRecDepth 100000 in
set_option maxHeartbeats 1000000 in
theorem bit_any (w : World) (A : Option Addr) (n c : Nat) (h : Htt) (hn : h.mask.length = n) (hr : RV w A (bv h.mask)) (hx : n ≤ 140737488355328) (j k : Nat) (hk : k < 8) (hj : j ≤ 140737488355328) :
    Calls Try.prog 67 #[.slice A n c, .int .i64 ((8 * j + k : Nat) : Int)] w fun e w' => e = .returned (.bool (bitS h j k)) ∧ w' = w := by
  by_cases h0 : n = 0
  · subst h0
    have hb : bitS h j k = false := by
      unfold bitS
      rw [maskAt_nil (List.eq_nil_of_length_eq_zero hn)]
      simp
    rw [hb]
    have t0 : (((0 : Nat) : Int) == 0) = true := rfl
    clear hb hr
    go_enter Try.func67, Try.ntmps67
    go_wp2_with fail
    go_ret
    exact ⟨rfl, rfl⟩
  · have hq : j % n < n := Nat.mod_lt _ (by omega)
    obtain ⟨m, hm⟩ : ∃ m, h.mask[j % n]? = some m := ⟨_, List.getElem?_eq_getElem (by rw [hn]; exact hq)⟩
    have hb : bitS h j k = decide (m.toNat / 2 ^ k % 2 = 1) := by
      unfold bitS
      rw [maskAt_some (by rw [hn]; exact hm)]
    rw [hb]
    obtain ⟨bd, rfl, hc⟩ := hr.at_ (k := j % n) (by rw [bv_length, hn]; exact hq)
    have ebm : (bv h.mask)[j % n]'(by rw [bv_length, hn]; exact hq) = .int .u8 (m.toNat : Int) := by
      have := bv_get h.mask (j % n)
      rw [hm] at this
      have h2 := (List.getElem?_eq_some_iff.1 this).2
      simpa using h2
    rw [ebm] at hc
    clear ebm hb hm hr
    have hmod : (8 * j + k) % (8 * n) = 8 * (j % n) + k := by
      have h1 : j = n * (j / n) + j % n := (Nat.div_add_mod j n).symm
      have h2 : 8 * j + k = 8 * n * (j / n) + (8 * (j % n) + k) := by
        have : 8 * j = 8 * (n * (j / n)) + 8 * (j % n) := by omega
        rw [Nat.mul_assoc]
        omega
      rw [h2, Nat.mul_add_mod, Nat.mod_eq_of_lt (by omega)]
    have hm8 := m.toNat_lt
    generalize m.toNat = mv at *
    obtain ⟨I, hI⟩ : ∃ I, 8 * j + k = I := ⟨_, rfl⟩
    obtain ⟨N8, hN8⟩ : ∃ N8, 8 * n = N8 := ⟨_, rfl⟩
    rw [hI, hN8] at hmod
    rw [hI]
    generalize j % n = q at *
    have w1 : IntKind.i64.wrap (8 * (n : Int)) = (N8 : Int) := by rw [show 8 * (n : Int) = (N8 : Int) by omega]; exact IntWalk.i64_in _ (by omega)
    have z1 : ¬ (N8 : Int) = 0 := by omega
    obtain ⟨R, hR⟩ : ∃ R, 8 * q + k = R := ⟨_, rfl⟩
    rw [hR] at hmod
    have w2 : Int.tmod (I : Int) (N8 : Int) = (R : Int) := by rw [Int.tmod_eq_emod_of_nonneg (by omega), ← hmod]; simp
    have w3 : IntKind.i64.wrap (R : Int) = (R : Int) := IntWalk.i64_in _ (by omega)
    have w4 : Int.tdiv (R : Int) 8 = (q : Int) := by rw [Int.tdiv_eq_ediv_of_nonneg (by omega)]; omega
    have w5 : IntKind.i64.wrap (q : Int) = (q : Int) := IntWalk.i64_in _ (by omega)
    have w6 : Int.tmod (R : Int) 8 = (k : Int) := by rw [Int.tmod_eq_emod_of_nonneg (by omega)]; omega
    have w7 : IntKind.i64.wrap (k : Int) = (k : Int) := IntWalk.i64_in _ (by omega)
    have w8 : IntKind.u64.wrap (k : Int) = (k : Int) := by rw [IntKind.wrap_u64]; omega
    have w9 : IntKind.i64.wrap (mv : Int) = (mv : Int) := IntWalk.i64_in _ (by omega)
    have hqI : (q : Int) < (n : Int) := by omega
    have hn0 : ¬ (n : Int) = 0 := by omega
    have t0 : ((n : Int) == 0) = false := by simp; omega
    have hY : mv / 2 ^ k ≤ mv := Nat.div_le_self _ _
    have e1 : ((mv : Int) / 2 ^ k) = ((mv / 2 ^ k : Nat) : Int) := by simp
    generalize mv / 2 ^ k = Y at *
    have w10 : IntKind.i64.wrap (Y : Int) = (Y : Int) := IntWalk.i64_in _ (by omega)
    have hd2 : Int.tmod (Y : Int) 2 = ((Y % 2 : Nat) : Int) := by rw [Int.tmod_eq_emod_of_nonneg (by omega)]; simp
    have hd : decide (Y % 2 = 1) = (((Y % 2 : Nat) : Int) == 1) := by
      by_cases hy : Y % 2 = 1
      · rw [decide_eq_true hy, hy]
        rfl
      · have : Y % 2 = 0 := by omega
        rw [decide_eq_false hy, this]
        rfl
    rw [hd]
    have hy2 : Y % 2 < 2 := Nat.mod_lt _ (by omega)
    generalize Y % 2 = Z at *
    have w11 : IntKind.i64.wrap (Z : Int) = (Z : Int) := IntWalk.i64_in _ (by omega)
    clear hd hY hmod hI hN8 hR
    go_enter Try.func67, Try.ntmps67
    go_wp2_with fail
    go_ret
    exact ⟨rfl, rfl⟩

/-! ### a byte whose lower bits are done -/
def bt (x : UInt8) (i : Nat) : Bool := x.toBitVec.getLsbD i
/-- The bits below k are those of 'mixB m o w'; the others are o's. -/
def Part (k : Nat) (m o w x : UInt8) : Prop := ∀ i, i < 8 → bt x i = if i < k ∧ bt m i = true then bt w i else bt o i
theorem Part.zero (m o w : UInt8) : Part 0 m o w o := fun i hi => by rw [if_neg (by omega)]
theorem Part.all {m o w x : UInt8} (h : Part 8 m o w x) : x = mixB m o w := by
  apply UInt8.eq_of_toBitVec_eq
  apply BitVec.eq_of_getLsbD_eq
  intro i hi
  have h1 := h i hi
  unfold bt at h1
  rw [h1]
  unfold mixB
  simp only [hi, true_and, UInt8.toBitVec_or, UInt8.toBitVec_and, UInt8.toBitVec_not, BitVec.getLsbD_or, BitVec.getLsbD_and, BitVec.getLsbD_not, decide_true, Bool.true_and]
  cases m.toBitVec.getLsbD i <;> cases o.toBitVec.getLsbD i <;> cases w.toBitVec.getLsbD i <;> rfl
theorem Part.skip {k : Nat} {m o w x : UInt8} (h : Part k m o w x) (hm : bt m k = false) : Part (k + 1) m o w x := fun i hi => by
  rw [h i hi]
  by_cases h1 : i = k
  · subst h1
    rw [hm]
    simp
  · have e : (i < k ∧ bt m i = true) ↔ (i < k + 1 ∧ bt m i = true) := by
      constructor
      · rintro ⟨h2, h3⟩; exact ⟨by omega, h3⟩
      · rintro ⟨h2, h3⟩; exact ⟨by omega, h3⟩
    by_cases h2 : i < k ∧ bt m i = true
    · rw [if_pos h2, if_pos (e.1 h2)]
    · rw [if_neg h2, if_neg (fun hh => h2 (e.2 hh))]
def oneB (k : Nat) : UInt8 := UInt8.ofNat (2 ^ k)
theorem bt_one : ∀ k, k < 8 → ∀ i, i < 8 → bt (oneB k) i = decide (i = k) := by decide
theorem Part.step {k : Nat} {m o w x : UInt8} (hk : k < 8) (h : Part k m o w x) (hm : bt m k = true) : Part (k + 1) m o w ((x &&& ~~~(oneB k)) ||| (w &&& oneB k)) := fun i hi => by
  have h1 := h i hi
  have h2 := bt_one k hk i hi
  unfold bt at h1 h2 hm ⊢
  simp only [UInt8.toBitVec_or, UInt8.toBitVec_and, UInt8.toBitVec_not, BitVec.getLsbD_or, BitVec.getLsbD_and, BitVec.getLsbD_not, hi, decide_true, Bool.true_and, h2, h1]
  by_cases h3 : i = k
  · subst h3
    rw [decide_eq_true rfl, hm]
    simp
  · rw [decide_eq_false h3]
    by_cases h4 : i < k ∧ m.toBitVec.getLsbD i = true
    · rw [if_pos h4, if_pos ⟨by omega, h4.2⟩]
      simp
    · rw [if_neg h4, if_neg (fun hh => h4 ⟨by omega, hh.2⟩)]
      simp
theorem bt_nat (x : UInt8) (k : Nat) : bt x k = decide (x.toNat / 2 ^ k % 2 = 1) := by
  unfold bt
  rw [BitVec.getLsbD, Nat.testBit_eq_decide_div_mod_eq]
  rfl
end Go.Proofs.Ytlcdabmclcfagaa
