/- The program's reader: New, Take, Row, Left. -/
import Derived.Test.YtakjjfohjodepaaRead
set_option linter.unusedVariables false
set_option linter.unusedSimpArgs false
namespace Go.Proofs.Ytakjjfohjodepaa
open Go.RowKit

theorem leval_append (l : List UInt8) (b : UInt8) : leval (l ++ [b]) = leval l + b.toNat * 256 ^ l.length := by
  induction l with
  | nil => simp [leval]
  | cons a r ih =>
    simp only [List.cons_append, leval, ih, List.length_cons, Nat.pow_succ]
    have e : b.toNat * (256 ^ r.length * 256) = 256 * (b.toNat * 256 ^ r.length) := by rw [← Nat.mul_assoc, Nat.mul_comm]
    rw [e, Nat.mul_add]
    omega
theorem leval_lt (l : List UInt8) : leval l < 256 ^ l.length := by
  induction l with
  | nil => simp [leval]
  | cons a r ih =>
    have := a.toNat_lt
    simp only [leval, List.length_cons, Nat.pow_succ]
    omega
theorem leval_lt64 (l : List UInt8) (h : l.length ≤ 8) : leval l < 18446744073709551616 :=
  Nat.lt_of_lt_of_le (leval_lt l) (Nat.le_trans (Nat.pow_le_pow_right (by decide) h) (by decide))

/-- What Take answers for a size that may be. -/
def TakeEnd (w : World) (g : Nat) (h : Option Nat) (st : Option (List UInt8)) (s : Nat) (e : Ending) (w' : World) : Prop :=
  e = .returned (.tuple #[.int .u64 ((takeS st s).1 : Nat), .int .i64 ((takeS st s).2.1 : Nat)]) ∧ Rd w' g h (takeS st s).2.2 ∧ w.grownBy w' (some g)
theorem isSz_le {s : Nat} (h : IsSz s) : 1 ≤ s ∧ s ≤ 8 := by rcases h with h | h | h | h <;> omega

theorem take_bad {w : World} {g : Nat} {h : Option Nat} {st : Option (List UInt8)} {n : Int} (r : Rd w g h st) (hn : ¬ IsSz n) :
    Calls Try.prog 19 #[.pointer (some ⟨g, 0, none⟩), .int .i64 n] w fun e w' => e = .returned (.tuple #[.int .u64 0, .int .i64 2]) ∧ w = w' := by
  have R := Lib.hid r
  have HN := Lib.hid hn
  clear r hn
  go_enter Try.func19, Try.ntmps19
  go_wp2_with (first
    | (go_at_call 31; refine (off_no R.out).mono ?_; rintro e w' ⟨rfl, rfl⟩)
    | (go_at_call 32; refine (isSize_no _ _ HN.out).mono ?_; rintro e w' ⟨rfl, rfl⟩))
  go_ret2
  exact ⟨rfl, rfl⟩

theorem take_no {w : World} {g : Nat} {h : Option Nat} {st : Option (List UInt8)} {s : Nat} (r : Rd w g h st) (hs : IsSz s) (hn : ∀ l, st = some l → l.length < s) :
    Calls Try.prog 19 #[.pointer (some ⟨g, 0, none⟩), .int .i64 s] w (TakeEnd w g h st s) := by
  have h8 := (isSz_le hs).2
  have he : takeS st s = (0, 4, none) := by
    cases st with
    | none => rfl
    | some l => simp [takeS, hn l rfl]
  have R := Lib.hid r
  have HS := Lib.hid hs
  have HN := Lib.hid hn
  have HE := Lib.hid he
  clear r hs hn he
  go_enter Try.func19, Try.ntmps19
  go_wp2_with (first
    | (go_at_call 31; refine (off_no R.out).mono ?_; rintro e w' ⟨rfl, rfl⟩)
    | (go_at_call 32; refine (isSize_yes _ _ HS.out).mono ?_; rintro e w' ⟨rfl, rfl⟩)
    | (go_at_call 33; refine (cut_no R.out HN.out (by omega)).mono ?_; rintro e w1 ⟨rfl, hr, hg⟩; have HR := Lib.hid hr; have HG := Lib.hid hg; clear hr hg))
  go_loopg [8, 26] 1 (fun k n i wr => k = 1 ∧ n = .int .u64 0 ∧ i = .int .i64 0 ∧ wr = w1)
  case atStart => exact ⟨rfl, rfl, rfl, rfl⟩
  case round =>
    obtain ⟨_, rfl, rfl, rfl⟩ := hrel
    go_wp2_with fail
    go_ret2
    refine ⟨?_, ?_, HG.out⟩
    · rw [HE.out]; rfl
    · rw [HE.out]; exact HR.out

theorem or_shl (n c j : Nat) (hn : n < 256 ^ j) : n ||| (c * 256 ^ j) = n + c * 256 ^ j := by
  have e : (256 : Nat) ^ j = 2 ^ (8 * j) := by rw [Nat.pow_mul]
  rw [e] at hn ⊢
  rw [Nat.or_comm, ← Nat.shiftLeft_eq, ← Nat.shiftLeft_add_eq_or_of_lt hn, Nat.add_comm]

theorem or_step (m x j : Nat) (hm : m < 256 ^ j) (hx : x < 256) (hj : j < 8) : bits .or .u64 (m : Int) (IntKind.u64.wrap ((x : Int) * 2 ^ (8 * j))) = ((m + x * 256 ^ j : Nat) : Int) := by
  have h1 : 256 ^ j ≤ 256 ^ 7 := Nat.pow_le_pow_right (by decide) (by omega)
  have h7 : (256 : Nat) ^ 7 = 72057594037927936 := by decide
  have h2 : x * 256 ^ j < 18446744073709551616 := by
    have : x * 256 ^ j ≤ 255 * 256 ^ 7 := Nat.mul_le_mul (by omega) h1
    omega
  have e : (x : Int) * 2 ^ (8 * j) = ((x * 256 ^ j : Nat) : Int) := by
    rw [Int.natCast_mul, pow256n]
  rw [e, IntKind.wrap_u64, Int.emod_eq_of_lt (by omega) (by omega), u64_or_nat _ _ (by omega) h2, or_shl _ _ _ hm]

theorem take_ok {w : World} {g : Nat} {h : Option Nat} {l : List UInt8} {s : Nat} (r : Rd w g h (some l)) (hs : IsSz s) (hn : s ≤ l.length) :
    Calls Try.prog 19 #[.pointer (some ⟨g, 0, none⟩), .int .i64 s] w (TakeEnd w g h (some l) s) := by
  have h8 := (isSz_le hs).2
  have he : takeS (some l) s = (leval (l.take s), 0, some (l.drop s)) := by simp [takeS, Nat.not_lt.2 hn]
  have htl : (l.take s).length = s := by rw [List.length_take]; omega
  have R := Lib.hid r
  have HS := Lib.hid hs
  have HN := Lib.hid hn
  have HE := Lib.hid he
  have HL := Lib.hid htl
  clear r hs hn he htl
  generalize hb : l.take s = b at HE HL
  have HBB := Lib.hid hb
  clear hb
  go_enter Try.func19, Try.ntmps19
  go_wp2_with (first
    | (go_at_call 31; refine (off_no R.out).mono ?_; rintro e w' ⟨rfl, rfl⟩)
    | (go_at_call 32; refine (isSize_yes _ _ HS.out).mono ?_; rintro e w' ⟨rfl, rfl⟩)
    | (go_at_call 33; refine (cut_ok R.out HN.out (by omega)).mono ?_; rintro e w1 ⟨v, rfl, hv, hr, hg⟩; rw [HBB.out] at hv; obtain ⟨A, c, rfl, hrv, hlc, hc, hA⟩ := hv; have HR := Lib.hid hr; have HG := Lib.hid hg; have HV := Lib.hid hrv; have hb8 : b.length ≤ 8 := (by have := HL.out; omega); clear hr hg hrv hA; unfold maxLen at hc))
  go_loopg [8, 26] b.length (fun k n i wr => ∃ j : Nat, j + k = b.length ∧ n = .int .u64 (leval (b.take j) : Nat) ∧ i = .int .i64 j ∧ wr = w1)
  case atStart => exact ⟨0, by omega, rfl, rfl, rfl⟩
  case round =>
    obtain ⟨j, hj, rfl, rfl, rfl⟩ := hrel
    have HJ := Lib.hid hj
    clear hj
    by_cases hlt : j < b.length
    · obtain ⟨ad, rfl, hcell⟩ := HV.out.at_ (k := j) (by rw [bv_length]; omega)
      have hbj : (bv b)[j]'(by rw [bv_length]; omega) = .int .u8 (b[j].toNat : Int) := by simp [bv]
      rw [hbj] at hcell
      have hb255 : b[j].toNat < 256 := b[j].toNat_lt
      have hle : leval (b.take j) < 256 ^ j := by
        have := leval_lt (b.take j)
        rwa [List.length_take, Nat.min_eq_left (by omega)] at this
      have hnx : leval (b.take (j + 1)) = leval (b.take j) + b[j].toNat * 256 ^ j := by
        rw [List.take_add_one, List.getElem?_eq_getElem hlt]
        have := leval_append (b.take j) b[j]
        rwa [List.length_take, Nat.min_eq_left (by omega)] at this
      generalize hm : leval (b.take j) = m at hle hnx
      generalize b[j].toNat = x at hcell hb255 hnx
      have HX := Lib.hid (And.intro hle (And.intro hnx hm))
      clear hle hnx hm hbj
      have hstep := or_step m x j HX.out.1 hb255 (by omega)
      have HST := Lib.hid hstep
      clear hstep
      go_wp2_with fail
      go_roundg (b.length - (j + 1))
      case measure => have := HJ.out; omega
      case rel => exact ⟨j + 1, by omega, by rw [HST.out, HX.out.2.1], by go_num, rfl⟩
    · have hge : ¬ (j : Int) < (b.length : Int) := by omega
      have hjb : j = b.length := by have := HJ.out; omega
      have hfin : leval (b.take j) = leval b := by rw [hjb, List.take_length]
      have HF := Lib.hid hfin
      clear hjb hfin
      go_wp2_with fail
      go_ret2
      refine ⟨?_, ?_, HG.out⟩
      · rw [HE.out, ← HF.out]; rfl
      · rw [HE.out]; exact HR.out
end Go.Proofs.Ytakjjfohjodepaa
