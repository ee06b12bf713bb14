import Derived.IntWalk
import Derived.Test.YtlcdabmclcfagaaProg
import Derived.Test.YtlcdabmclcfagaaMSeal
import Derived.Test.YtlcdabmclcfagaaMBase
set_option linter.unusedVariables false
set_option linter.unusedSimpArgs false
/- The document's Noughts alone (SealDN without Size). -/
namespace Go.Proofs.Ytlcdabmclcfagaa
open Go.RowKit

theorem tdiv_nat (x K : Nat) : Int.tdiv (x : Int) (K : Int) = ((x / K : Nat) : Int) := by
  rw [Int.tdiv_eq_ediv_of_nonneg (by omega)]
  simp
theorem tmod_two (x : Nat) : Int.tmod (x : Int) 2 = ((x % 2 : Nat) : Int) := by
  rw [Int.tmod_eq_emod_of_nonneg (by omega)]
  simp

set_option maxHeartbeats 1000000 in
theorem dNoughts_any (A : Option Addr) (c : Nat) (xs : List UInt8) (w : World) (hr : RV w A (bv xs)) (hx : xs.length ≤ 140737488355328) :
    Calls Try.prog 65 #[.slice A xs.length c] w fun e w' => e = .returned (.int .i64 (noughts xs : Nat)) ∧ w = w' := by
  have HR := Lib.hid hr
  clear hr
  go_enter Try.func65, Try.ntmps65
  go_wp2_with fail
  go_loopg [3, 4] xs.length (fun k n i wr => ∃ j : Nat, j + k = xs.length ∧ n = .int .i64 (noughts (xs.take j) : Nat) ∧ i = .int .i64 j ∧ wr = w)
  case atStart => exact ⟨0, by omega, rfl, rfl, rfl⟩
  case round =>
    obtain ⟨j, hj, rfl, rfl, rfl⟩ := hrel
    have HJ := Lib.hid hj
    clear hj
    by_cases hlt : j < xs.length
    · obtain ⟨ad, rfl, hcell⟩ := HR.out.at_ (k := j) (by rw [bv_length]; omega)
      have hbj : (bv xs)[j]'(by rw [bv_length]; omega) = .int .u8 (xs[j].toNat : Int) := by simp [bv]
      rw [hbj] at hcell
      have hnt := noughts_take hlt
      have hz8 : zeros xs[j] = zerosTo xs[j].toNat 8 := rfl
      have hn := noughts_le (xs.take j)
      have hb256 := xs[j].toNat_lt
      rw [List.length_take] at hn
      have hn2 : noughts (xs.take j) ≤ 1125899906842624 := by omega
      generalize noughts (xs.take j) = m at hnt hn2
      generalize zeros xs[j] = zb at hnt hz8
      generalize xs[j].toNat = x at hcell hz8 hb256
      have hx255 : (x : Int) ≤ 255 := by omega
      have HX := Lib.hid (And.intro hnt hz8)
      clear hnt hn hbj hz8
      go_wp2_with fail
      obtain ⟨wo, rfl⟩ : ∃ wo : World, wo = wr := ⟨_, rfl⟩
      go_loopg [3, 5] 8 (fun k n i wr => ∃ q : Nat, q + k = 8 ∧ n = .int .i64 ((m + zerosTo x q : Nat) : Int) ∧ i = .int .i64 ((2 ^ q : Nat) : Int) ∧ wr = wo)
      case atStart => exact ⟨0, rfl, rfl, rfl, rfl⟩
      case round =>
        obtain ⟨q, hq, rfl, rfl, rfl⟩ := hrel
        have HQ := Lib.hid hq
        by_cases hq8 : q < 8
        · have hp1 : 1 ≤ 2 ^ q := Nat.one_le_two_pow
          have hp2 : 2 ^ q ≤ 128 := Nat.pow_le_pow_right (n := 2) (j := 7) (by decide) (by omega)
          have hz := zerosTo_le x q
          have hz8 : zerosTo x q ≤ 8 := by omega
          have hs : zerosTo x (q + 1) = zerosTo x q + if x / 2 ^ q % 2 = 0 then 1 else 0 := rfl
          have hpq : 2 ^ (q + 1) = 2 * 2 ^ q := by rw [Nat.pow_succ]; omega
          generalize zerosTo x q = z at hz8 hs
          generalize 2 ^ q = K at hp1 hp2 hs hpq
          have hK : (K : Int) ≤ 128 := by omega
          have hd := tdiv_nat x K
          have hm := tmod_two (x / K)
          have hle : x / K ≤ 255 := Nat.le_trans (Nat.div_le_self _ _) (by omega)
          have hm2 : x / K % 2 < 2 := Nat.mod_lt _ (by omega)
          have HS := Lib.hid (And.intro hs hpq)
          clear hs hpq hz hq
          generalize x / K = y at hd hm hle hm2 HS
          generalize y % 2 = b at hm hm2 HS
          by_cases hb0 : b = 0
          · subst hb0
            go_wp2_with fail
            go_roundg (8 - (q + 1))
            case measure => have := HQ.out; omega
            case rel => exact ⟨q + 1, by have := HQ.out; omega, by rw [HS.out.1]; go_num, by rw [HS.out.2]; go_num, rfl⟩
          · obtain rfl : b = 1 := by omega
            go_wp2_with fail
            go_roundg (8 - (q + 1))
            case measure => have := HQ.out; omega
            case rel => exact ⟨q + 1, by have := HQ.out; omega, by rw [HS.out.1]; go_num, by rw [HS.out.2]; go_num, rfl⟩
        · obtain rfl : q = 8 := by omega
          have hz := HX.out.2
          have hz8 := zerosTo_le x 8
          rw [← hz] at hz8 ⊢
          clear hz hq
          go_wp2_with fail
          go_roundg (xs.length - (j + 1))
          case measure => have := HJ.out; omega
          case rel => exact ⟨j + 1, by have := HJ.out; omega, by rw [HX.out.1], by go_num, rfl⟩
    · have hjx : j = xs.length := by have := HJ.out; omega
      have hfin : noughts (xs.take j) = noughts xs := by rw [hjx, List.take_length]
      have HF := Lib.hid hfin
      clear hfin hjx
      go_wp2_with fail
      go_ret
      exact ⟨by rw [← HF.out]; rfl, rfl⟩

theorem dNoughts_at (A : Option Addr) (n c : Nat) (xs : List UInt8) (w : World) (hn : xs.length = n) (hr : RV w A (bv xs)) (hx : n ≤ 140737488355328) :
    Calls Try.prog 65 #[.slice A n c] w fun e w' => e = .returned (.int .i64 (noughts xs : Nat)) ∧ w = w' := by
  subst hn
  exact dNoughts_any A c xs w hr hx
end Go.Proofs.Ytlcdabmclcfagaa

/- The document's Blank alone (SealDK over NoD). -/
namespace Go.Proofs.Ytlcdabmclcfagaa
open Go.RowKit

theorem zeros_none : ∀ n : Fin 256, zerosTo n.val 8 = 0 ↔ n.val = 255 := by decide +kernel
theorem noughts_zero (l : List UInt8) : noughts l = 0 ↔ blankS l := by
  induction l with
  | nil => exact Iff.intro (fun _ x hx => nomatch hx) (fun _ => rfl)
  | cons a l ih =>
    have hz : zeros a = 0 ↔ a = 255 :=
      Iff.trans (b := a.toNat = 255) (zeros_none ⟨a.toNat, a.toNat_lt⟩) (Iff.intro (fun h => UInt8.toNat.inj h) (fun h => by rw [h]; rfl))
    simp only [noughts]
    constructor
    · intro h x hx
      rcases List.mem_cons.1 hx with rfl | hx
      · exact hz.1 (by omega)
      · exact (ih.1 (by omega)) x hx
    · intro h
      have h1 := hz.2 (h a (by simp))
      have h2 := ih.2 (fun x hx => h x (by simp [hx]))
      omega
theorem dBlank_any (A : Option Addr) (c : Nat) (xs : List UInt8) (w : World) (hr : RV w A (bv xs)) (hx : xs.length ≤ 140737488355328) :
    Calls Try.prog 52 #[.slice A xs.length c] w fun e w' => e = .returned (.bool (decide (blankS xs))) ∧ w = w' := by
  have HR := Lib.hid hr
  have hd : decide (blankS xs) = ((noughts xs : Int) == 0) := by
    rw [Bool.eq_iff_iff, decide_eq_true_iff, ← noughts_zero]
    simp
  have HD := Lib.hid hd
  clear hr hd
  go_enter Try.func52, Try.ntmps52
  go_wp2_with (go_at_call 65; refine (dNoughts_any _ _ xs _ HR.out hx).mono ?_; rintro e w' ⟨rfl, rfl⟩; generalize noughts xs = n at HD)
  go_ret
  exact ⟨ret_bool HD.out.symm, rfl⟩

theorem dBlank_at (A : Option Addr) (n c : Nat) (xs : List UInt8) (w : World) (hn : xs.length = n) (hr : RV w A (bv xs)) (hx : n ≤ 140737488355328) :
    Calls Try.prog 52 #[.slice A n c] w fun e w' => e = .returned (.bool (decide (blankS xs))) ∧ w = w' := by
  subst hn
  exact dBlank_any A c xs w hr hx

end Go.Proofs.Ytlcdabmclcfagaa
