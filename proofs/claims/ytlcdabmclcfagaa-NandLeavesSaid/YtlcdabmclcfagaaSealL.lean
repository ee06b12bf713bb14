/- Layer 2: what is less, and the contract of seal.Less. -/
import Derived.Test.YtlcdabmclcfagaaSealS
import Derived.Test.YtlcdabmclcfagaaSealK
import Derived.Laws.BitsAllLaws
set_option linter.unusedVariables false
set_option linter.unusedSimpArgs false
namespace Go.Proofs.Ytlcdabmclcfagaa
open Go.RowKit

/-- a has everywhere a 1 where b has one, and they are not the same. -/
def lessS (a b : List UInt8) : Prop := Up b a ∧ a ≠ b
noncomputable instance (a b : List UInt8) : Decidable (lessS a b) := Classical.propDecidable _

theorem Up.snoc {l m : List UInt8} {c a : UInt8} (h : Up l m) (hx : ∃ x, a = c ||| x) : Up (l ++ [c]) (m ++ [a]) := by
  refine ⟨by rw [List.length_append, List.length_append, h.1]; rfl, fun i p q hp hq => ?_⟩
  by_cases hi : i < l.length
  · rw [List.getElem?_append_left hi] at hp
    rw [List.getElem?_append_left (by rw [← h.1]; exact hi)] at hq
    exact h.2 i p q hp hq
  · rw [List.getElem?_append_right (by omega)] at hp
    rw [List.getElem?_append_right (by rw [← h.1]; omega)] at hq
    have hl := h.1
    rcases hj : i - l.length with _ | j
    · rw [hj] at hp
      rw [← hl, hj] at hq
      simp at hp hq
      rw [← hp, ← hq]
      exact hx
    · rw [hj] at hp
      simp at hp
theorem take_snoc {l : List UInt8} {j : Nat} (h : j < l.length) : l.take (j + 1) = l.take j ++ [l[j]] := by
  rw [List.take_add_one, List.getElem?_eq_getElem h]
  rfl
theorem and_or (a c : Nat) (ha : a < 256) (hc : c < 256) : c &&& (255 - a) = 0 ↔ c ||| a = a := by
  have e : 255 - a = 2 ^ 8 - (a + 1) := by omega
  have ht : ∀ i, (c &&& (255 - a)).testBit i = (c.testBit i && (decide (i < 8) && !a.testBit i)) := fun i => by
    rw [e, Nat.testBit_and, Nat.testBit_two_pow_sub_succ ha]
  have hbig : ∀ i, ¬ i < 8 → c.testBit i = false := fun i hi => Nat.testBit_lt_two_pow (Nat.lt_of_lt_of_le hc (Nat.pow_le_pow_right (n := 2) (i := 8) (by decide) (by omega)))
  constructor
  · intro h
    apply Nat.eq_of_testBit_eq
    intro i
    have h2 := ht i
    rw [h, Nat.zero_testBit] at h2
    rw [Nat.testBit_or]
    by_cases hi : i < 8
    · rw [decide_eq_true hi] at h2
      cases hcb : c.testBit i <;> cases hab : a.testBit i <;> simp [hcb, hab] at h2 ⊢
    · rw [hbig i hi, Bool.false_or]
  · intro h
    apply Nat.eq_of_testBit_eq
    intro i
    rw [ht, Nat.zero_testBit]
    have h2 := congrArg (fun n => n.testBit i) h
    simp only [Nat.testBit_or] at h2
    cases hcb : c.testBit i <;> cases hab : a.testBit i <;> simp [hcb, hab] at h2 ⊢
theorem bit_yes {a c : UInt8} (h : (bits .andNot .u8 (c.toNat : Int) (a.toNat : Int) != 0) = false) : ∃ x, a = c ||| x := by
  rw [u8_andNot_nat _ _ c.toNat_lt a.toNat_lt] at h
  have h0 : c.toNat &&& (255 - a.toNat) = 0 := by simpa using h
  have h2 := (and_or _ _ a.toNat_lt c.toNat_lt).1 h0
  exact ⟨a, UInt8.toNat.inj (by rw [UInt8.toNat_or, h2])⟩
theorem bit_no {a c : UInt8} (h : (bits .andNot .u8 (c.toNat : Int) (a.toNat : Int) != 0) = true) : ¬ ∃ x, a = c ||| x := by
  rintro ⟨x, rfl⟩
  rw [u8_andNot_nat _ _ c.toNat_lt (UInt8.toNat_lt _)] at h
  have h0 : ¬ c.toNat &&& (255 - (c ||| x).toNat) = 0 := by simpa using h
  refine h0 ((and_or _ _ (UInt8.toNat_lt _) c.toNat_lt).2 ?_)
  rw [UInt8.toNat_or, ← Nat.or_assoc, Nat.or_self]
theorem snoc_ne {l m : List UInt8} {c a : UInt8} (hl : l.length = m.length) : decide (m ++ [a] ≠ l ++ [c]) = (decide (m ≠ l) || decide (a ≠ c)) := by
  by_cases h : m = l
  · subst h
    simp
  · have hh : ¬ m ++ [a] = l ++ [c] := fun hh => h (List.append_inj_left hh hl.symm)
    rw [decide_eq_true hh, decide_eq_true h]
    rfl

set_option maxHeartbeats 400000 in
theorem less_any (A : Option Addr) (ca : Nat) (a : List UInt8) (B : Option Addr) (cb : Nat) (b : List UInt8) (w : World) (ha : RV w A (bv a)) (hb : RV w B (bv b)) (hla : a.length ≤ maxLen) (hlb : b.length ≤ maxLen) :
    Calls Try.prog 19 #[.slice A a.length ca, .slice B b.length cb] w fun e w' => e = .returned (.bool (decide (lessS a b))) ∧ w = w' := by
  unfold maxLen at hla hlb
  by_cases hl : a.length = b.length
  · have HR := Lib.hid (And.intro ha (And.intro hb hl))
    rw [hl]
    clear ha hb hl
    go_enter Try.func19, Try.ntmps19
    go_wp2_with fail
    go_loopg [5, 15] b.length (fun k o i wr => ∃ j : Nat, j + k = b.length ∧ o = .bool (decide (a.take j ≠ b.take j)) ∧ i = .int .i64 j ∧ wr = w ∧ Up (b.take j) (a.take j))
    case atStart => exact ⟨0, by omega, rfl, rfl, rfl, Up.refl _⟩
    case round =>
      obtain ⟨j, hj, rfl, rfl, rfl, hup⟩ := hrel
      have HJ := Lib.hid (And.intro hj hup)
      clear hj hup
      by_cases hlt : j < b.length
      · have hlt2 : j < a.length := by rw [HR.out.2.2]; exact hlt
        obtain ⟨ad, rfl, hcell⟩ := HR.out.1.at_ (k := j) (by rw [bv_length]; exact hlt2)
        obtain ⟨bd, rfl, hcelb⟩ := HR.out.2.1.at_ (k := j) (by rw [bv_length]; exact hlt)
        have ea : (bv a)[j]'(by rw [bv_length]; exact hlt2) = .int .u8 (a[j].toNat : Int) := by simp [bv]
        have eb : (bv b)[j]'(by rw [bv_length]; exact hlt) = .int .u8 (b[j].toNat : Int) := by simp [bv]
        rw [ea] at hcell
        rw [eb] at hcelb
        have sa := take_snoc hlt2
        have sb := take_snoc hlt
        have sn := snoc_ne (c := b[j]) (a := a[j]) HJ.out.2.1
        have su := fun (hx : ∃ x, a[j] = b[j] ||| x) => (HJ.out.2).snoc (c := b[j]) (a := a[j]) hx
        rw [← sa, ← sb] at sn su
        have sno : ¬ (∃ x, a[j] = b[j] ||| x) → ¬ lessS a b := fun h hh => h (hh.1.2 j b[j] a[j] (List.getElem?_eq_getElem hlt) (List.getElem?_eq_getElem hlt2))
        have hne : ((b[j].toNat : Int) != (a[j].toNat : Int)) = decide (a[j] ≠ b[j]) := by
          by_cases h : a[j] = b[j]
          · simp [h]
          · have h2 : b[j].toNat ≠ a[j].toNat := fun h2 => h (UInt8.toNat.inj h2.symm)
            simp [h]
            omega
        clear ea eb sa sb
        have hy := bit_yes (a := a[j]) (c := b[j])
        have hn := bit_no (a := a[j]) (c := b[j])
        have hb1 := a[j].toNat_lt
        have hb2 := b[j].toNat_lt
        generalize decide (a[j] ≠ b[j]) = d at hne sn
        generalize hax : a[j].toNat = x at hcell hne hy hn hb1
        generalize hbx : b[j].toNat = y at hcelb hne hy hn hb2
        clear hax hbx
        generalize decide (a.take j ≠ b.take j) = o at sn
        by_cases hbit : (bits .andNot .u8 (y : Int) (x : Int) != 0) = false
        · have HU := Lib.hid (And.intro sn (su (hy hbit)))
          clear sn su sno hy hn
          cases o <;> cases d
          all_goals
            go_wp2_with fail
            go_roundg (b.length - (j + 1))
            case measure => have := HJ.out.1; omega
            case rel => exact ⟨j + 1, by have := HJ.out.1; omega, by rw [HU.out.1]; rfl, by go_num, rfl, HU.out.2⟩
        · have hbit2 : (bits .andNot .u8 (y : Int) (x : Int) != 0) = true := by simpa using hbit
          have HU := Lib.hid (sno (hn hbit2))
          clear sn su sno hy hn hbit
          go_wp2_with fail
          go_ret
          exact ⟨ret_bool (decide_eq_false HU.out).symm, rfl⟩
      · have hjx : j = b.length := by have := HJ.out.1; omega
        have hfin : decide (a.take j ≠ b.take j) = decide (lessS a b) := by
          have hup := HJ.out.2
          rw [hjx, List.take_length, List.take_of_length_le (by rw [HR.out.2.2]; exact Nat.le_refl _)] at hup ⊢
          exact decide_eq_decide.2 ⟨fun h => ⟨hup, h⟩, fun h => h.2⟩
        have HF := Lib.hid hfin
        clear hfin hjx
        go_wp2_with fail
        go_ret
        exact ⟨ret_bool HF.out, rfl⟩
  · have hne : ((a.length : Int) != (b.length : Int)) = true := by simp; omega
    have HN := Lib.hid (show ¬ lessS a b from fun h => hl h.1.1.symm)
    clear ha hb hl
    go_enter Try.func19, Try.ntmps19
    go_wp2_with fail
    go_ret
    exact ⟨ret_bool (decide_eq_false HN.out).symm, rfl⟩
end Go.Proofs.Ytlcdabmclcfagaa
