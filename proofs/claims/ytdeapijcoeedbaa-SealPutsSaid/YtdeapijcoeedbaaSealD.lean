/- Layer 2: the document's own functions: Size, Body, Noughts, Blank, Less. -/
import Derived.Test.YtdeapijcoeedbaaSealL
import Derived.IntWalk
import Derived.Deep.QuietTactic
import Derived.BigQuiet
set_option linter.unusedVariables false
set_option linter.unusedSimpArgs false
namespace Go.Proofs.Ytdeapijcoeedbaa
open Go.RowKit

theorem dSize_yes (n : Int) (w : World) (h : 128 ≤ n) (h2 : n ≤ 256) : Calls Try.prog 31 #[.int .i64 n] w fun e w' => e = .returned (.bool true) ∧ w = w' := by
  go_enter Try.func31, Try.ntmps31
  go_wp2
  go_ret
  exact ⟨rfl, rfl⟩
theorem dSize_no (n : Int) (w : World) (h : ¬ (128 ≤ n ∧ n ≤ 256)) : Calls Try.prog 31 #[.int .i64 n] w fun e w' => e = .returned (.bool false) ∧ w = w' := by
  have hd : n < 128 ∨ decide (n ≤ 256) = false := by
    rcases (show n < 128 ∨ (128 ≤ n ∧ 256 < n) by omega) with h | ⟨h, h2⟩
    · exact .inl h
    · exact .inr (by simp; omega)
  rcases hd with h | h2
  · go_enter Try.func31, Try.ntmps31
    go_wp2
    go_ret
    exact ⟨rfl, rfl⟩
  · have h1 : 128 ≤ n := by simp at h2; omega
    go_enter Try.func31, Try.ntmps31
    go_wp2
    go_ret
    exact ⟨rfl, rfl⟩
theorem dBody_any (n : Int) (w : World) : Calls Try.prog 15 #[.int .i64 n] w fun e w' => e = .returned (.int .i64 (bodyS n : Nat)) ∧ w = w' := by
  by_cases h : 128 ≤ n ∧ n ≤ 256
  · have hb : bodyS n = n.toNat - 5 := by unfold bodyS; rw [if_pos h]
    have he : (n - 5 : Int) = ((n.toNat - 5 : Nat) : Int) := by omega
    have HB := Lib.hid (And.intro hb he)
    clear hb he
    obtain ⟨h1, h2⟩ := h
    go_enter Try.func15, Try.ntmps15
    go_wp2_with (go_at_call 31; refine (dSize_yes _ _ h1 h2).mono ?_; rintro e w' ⟨rfl, rfl⟩)
    go_ret
    exact ⟨ret_int (by rw [HB.out.1]; exact HB.out.2), rfl⟩
  · have hb : bodyS n = 0 := by unfold bodyS; rw [if_neg h]
    have HB := Lib.hid hb
    have H := Lib.hid h
    clear hb h
    go_enter Try.func15, Try.ntmps15
    go_wp2_with (go_at_call 31; refine (dSize_no _ _ H.out).mono ?_; rintro e w' ⟨rfl, rfl⟩)
    go_ret
    exact ⟨by rw [HB.out]; rfl, rfl⟩

theorem tdiv_nat (x K : Nat) : Int.tdiv (x : Int) (K : Int) = ((x / K : Nat) : Int) := by
  rw [Int.tdiv_eq_ediv_of_nonneg (by omega)]
  simp
theorem tmod_two (x : Nat) : Int.tmod (x : Int) 2 = ((x % 2 : Nat) : Int) := by
  rw [Int.tmod_eq_emod_of_nonneg (by omega)]
  simp

set_option maxHeartbeats 1000000 in
theorem dNoughts_any (A : Option Addr) (c : Nat) (xs : List UInt8) (w : World) (hr : RV w A (bv xs)) (hx : xs.length ≤ 140737488355328) :
    Calls Try.prog 21 #[.slice A xs.length c] w fun e w' => e = .returned (.int .i64 (noughts xs : Nat)) ∧ w = w' := by
  have HR := Lib.hid hr
  clear hr
  go_enter Try.func21, Try.ntmps21
  go_wp2_with fail
  go_loopg [3, 4] xs.length (fun k n i wr => ∃ j : Nat, j + k = xs.length ∧ n = .int .i64 (noughts (xs.take j) : Nat) ∧ i = .int .i64 j ∧ wr = w)
  case atStart => exact ⟨0, by omega, rfl, rfl, rfl⟩
  case round =>
    obtain ⟨j, hj, rfl, rfl, rfl⟩ := hrel
    have HJ := Lib.hid hj
    clear hj
    by_cases hlt : j < xs.length
    · obtain ⟨ad, rfl, hcell⟩ := HR.out.at_ (k := j) (by rw [bv_length]; omega)
      have hbj : (bv xs)[j]'(by rw [bv_length]; omega) = .int .u8 (xs[j].toNat : Int) := by simp [bv]
      rw [hbj] at hcell
      have hnt := noughts_take hlt
      have hz8 : zeros xs[j] = zerosTo xs[j].toNat 8 := rfl
      have hn := noughts_le (xs.take j)
      have hb256 := xs[j].toNat_lt
      rw [List.length_take] at hn
      have hn2 : noughts (xs.take j) ≤ 1125899906842624 := by omega
      generalize noughts (xs.take j) = m at hnt hn2
      generalize zeros xs[j] = zb at hnt hz8
      generalize xs[j].toNat = x at hcell hz8 hb256
      have hx255 : (x : Int) ≤ 255 := by omega
      have HX := Lib.hid (And.intro hnt hz8)
      clear hnt hn hbj hz8
      go_wp2_with fail
      obtain ⟨wo, rfl⟩ : ∃ wo : World, wo = wr := ⟨_, rfl⟩
      go_loopg [3, 5] 8 (fun k n i wr => ∃ q : Nat, q + k = 8 ∧ n = .int .i64 ((m + zerosTo x q : Nat) : Int) ∧ i = .int .i64 ((2 ^ q : Nat) : Int) ∧ wr = wo)
      case atStart => exact ⟨0, rfl, rfl, rfl, rfl⟩
      case round =>
        obtain ⟨q, hq, rfl, rfl, rfl⟩ := hrel
        have HQ := Lib.hid hq
        by_cases hq8 : q < 8
        · have hp1 : 1 ≤ 2 ^ q := Nat.one_le_two_pow
          have hp2 : 2 ^ q ≤ 128 := Nat.pow_le_pow_right (n := 2) (j := 7) (by decide) (by omega)
          have hz := zerosTo_le x q
          have hz8 : zerosTo x q ≤ 8 := by omega
          have hs : zerosTo x (q + 1) = zerosTo x q + if x / 2 ^ q % 2 = 0 then 1 else 0 := rfl
          have hpq : 2 ^ (q + 1) = 2 * 2 ^ q := by rw [Nat.pow_succ]; omega
          generalize zerosTo x q = z at hz8 hs
          generalize 2 ^ q = K at hp1 hp2 hs hpq
          have hK : (K : Int) ≤ 128 := by omega
          have hd := tdiv_nat x K
          have hm := tmod_two (x / K)
          have hle : x / K ≤ 255 := Nat.le_trans (Nat.div_le_self _ _) (by omega)
          have hm2 : x / K % 2 < 2 := Nat.mod_lt _ (by omega)
          have HS := Lib.hid (And.intro hs hpq)
          clear hs hpq hz hq
          generalize x / K = y at hd hm hle hm2 HS
          generalize y % 2 = b at hm hm2 HS
          by_cases hb0 : b = 0
          · subst hb0
            go_wp2_with fail
            go_roundg (8 - (q + 1))
            case measure => have := HQ.out; omega
            case rel => exact ⟨q + 1, by have := HQ.out; omega, by rw [HS.out.1]; go_num, by rw [HS.out.2]; go_num, rfl⟩
          · obtain rfl : b = 1 := by omega
            go_wp2_with fail
            go_roundg (8 - (q + 1))
            case measure => have := HQ.out; omega
            case rel => exact ⟨q + 1, by have := HQ.out; omega, by rw [HS.out.1]; go_num, by rw [HS.out.2]; go_num, rfl⟩
        · obtain rfl : q = 8 := by omega
          have hz := HX.out.2
          have hz8 := zerosTo_le x 8
          rw [← hz] at hz8 ⊢
          clear hz hq
          go_wp2_with fail
          go_roundg (xs.length - (j + 1))
          case measure => have := HJ.out; omega
          case rel => exact ⟨j + 1, by have := HJ.out; omega, by rw [HX.out.1], by go_num, rfl⟩
    · have hjx : j = xs.length := by have := HJ.out; omega
      have hfin : noughts (xs.take j) = noughts xs := by rw [hjx, List.take_length]
      have HF := Lib.hid hfin
      clear hfin hjx
      go_wp2_with fail
      go_ret
      exact ⟨by rw [← HF.out]; rfl, rfl⟩

theorem zeros_none : ∀ n : Fin 256, zerosTo n.val 8 = 0 ↔ n.val = 255 := by decide +kernel
theorem noughts_zero (l : List UInt8) : noughts l = 0 ↔ blankS l := by
  induction l with
  | nil => exact Iff.intro (fun _ x hx => nomatch hx) (fun _ => rfl)
  | cons a l ih =>
    have hz : zeros a = 0 ↔ a = 255 :=
      Iff.trans (b := a.toNat = 255) (zeros_none ⟨a.toNat, a.toNat_lt⟩) (Iff.intro (fun h => UInt8.toNat.inj h) (fun h => by rw [h]; rfl))
    simp only [noughts]
    constructor
    · intro h x hx
      rcases List.mem_cons.1 hx with rfl | hx
      · exact hz.1 (by omega)
      · exact (ih.1 (by omega)) x hx
    · intro h
      have h1 := hz.2 (h a (by simp))
      have h2 := ih.2 (fun x hx => h x (by simp [hx]))
      omega
theorem dBlank_any (A : Option Addr) (c : Nat) (xs : List UInt8) (w : World) (hr : RV w A (bv xs)) (hx : xs.length ≤ 140737488355328) :
    Calls Try.prog 23 #[.slice A xs.length c] w fun e w' => e = .returned (.bool (decide (blankS xs))) ∧ w = w' := by
  have HR := Lib.hid hr
  have hd : decide (blankS xs) = ((noughts xs : Int) == 0) := by
    rw [Bool.eq_iff_iff, decide_eq_true_iff, ← noughts_zero]
    simp
  have HD := Lib.hid hd
  clear hr hd
  go_enter Try.func23, Try.ntmps23
  go_wp2_with (go_at_call 21; refine (dNoughts_any _ _ xs _ HR.out hx).mono ?_; rintro e w' ⟨rfl, rfl⟩; generalize noughts xs = n at HD)
  go_ret
  exact ⟨ret_bool HD.out.symm, rfl⟩

/-- The lowest q bits: where x has a 1, y has one. -/
def lowUp (x y q : Nat) : Prop := ∀ i, i < q → x / 2 ^ i % 2 = 1 → y / 2 ^ i % 2 = 1
theorem lowUp_all {a c : UInt8} (h : lowUp c.toNat a.toNat 8) : ∃ x, a = c ||| x := by
  refine ⟨a, UInt8.toNat.inj ?_⟩
  rw [UInt8.toNat_or]
  apply Nat.eq_of_testBit_eq
  intro i
  rw [Nat.testBit_or]
  by_cases hi : i < 8
  · have := h i hi
    rw [Nat.testBit_eq_decide_div_mod_eq, Nat.testBit_eq_decide_div_mod_eq]
    by_cases h1 : c.toNat / 2 ^ i % 2 = 1
    · simp [h1, this h1]
    · simp [h1]
  · rw [testBit_big c i (by omega), testBit_big a i (by omega)]
    rfl
theorem lowUp_no {a c : UInt8} {i : Nat} (h1 : c.toNat / 2 ^ i % 2 = 1) (h2 : a.toNat / 2 ^ i % 2 = 0) : ¬ ∃ x, a = c ||| x := by
  rintro ⟨x, rfl⟩
  have e1 : c.toNat.testBit i = true := by rw [Nat.testBit_eq_decide_div_mod_eq]; simp [h1]
  have e2 : (c ||| x).toNat.testBit i = false := by rw [Nat.testBit_eq_decide_div_mod_eq, h2]; rfl
  rw [UInt8.toNat_or, Nat.testBit_or, e1] at e2
  simp at e2
theorem lowUp_succ {x y q : Nat} (h : lowUp x y q) (h2 : x / 2 ^ q % 2 = 1 → y / 2 ^ q % 2 = 1) : lowUp x y (q + 1) := fun i hi => by
  rcases Nat.lt_succ_iff_lt_or_eq.1 hi with h' | rfl
  · exact h i h'
  · exact h2
theorem snoc_eq {l m : List UInt8} {c a : UInt8} (hl : l.length = m.length) : decide (m ++ [a] = l ++ [c]) = (decide (m = l) && decide (a = c)) := by
  by_cases h : m = l
  · subst h
    simp
  · have hh : ¬ m ++ [a] = l ++ [c] := fun hh => h (List.append_inj_left hh hl.symm)
    rw [decide_eq_false hh, decide_eq_false h]
    rfl

set_option maxHeartbeats 2000000 in
theorem dLess_any (A : Option Addr) (ca : Nat) (a : List UInt8) (B : Option Addr) (cb : Nat) (b : List UInt8) (w : World) (ha : RV w A (bv a)) (hb : RV w B (bv b)) (hla : a.length ≤ maxLen) (hlb : b.length ≤ maxLen) :
    Calls Try.prog 25 #[.slice A a.length ca, .slice B b.length cb] w fun e w' => e = .returned (.bool (decide (lessS a b))) ∧ Drawn w w' := by
  unfold maxLen at hla hlb
  by_cases hl : a.length = b.length
  · have HR := Lib.hid (And.intro ha (And.intro hb hl))
    rw [hl]
    clear ha hb hl
    go_enter Try.func25, Try.ntmps25
    go_wp2_with fail
    go_loopg [5, 6] b.length (fun k o i wr => ∃ (j : Nat) (n : Nat), j + k = b.length ∧ o = .bool (decide (a.take j = b.take j)) ∧ i = .int .i64 j ∧ wr = w.drewN n ∧ Up (b.take j) (a.take j))
    case atStart => exact ⟨0, 0, by omega, rfl, rfl, rfl, Up.refl _⟩
    case round =>
      obtain ⟨j, n, hj, rfl, rfl, rfl, hup⟩ := hrel
      have HJ := Lib.hid (And.intro hj hup)
      clear hj hup
      by_cases hlt : j < b.length
      · have hlt2 : j < a.length := by rw [HR.out.2.2]; exact hlt
        obtain ⟨ad, rfl, hcell⟩ := HR.out.1.at_ (k := j) (by rw [bv_length]; exact hlt2)
        obtain ⟨bd, rfl, hcelb⟩ := HR.out.2.1.at_ (k := j) (by rw [bv_length]; exact hlt)
        have ea : (bv a)[j]'(by rw [bv_length]; exact hlt2) = .int .u8 (a[j].toNat : Int) := by simp [bv]
        have eb : (bv b)[j]'(by rw [bv_length]; exact hlt) = .int .u8 (b[j].toNat : Int) := by simp [bv]
        rw [ea] at hcell
        rw [eb] at hcelb
        have sa := take_snoc hlt2
        have sb := take_snoc hlt
        have sn := snoc_eq (c := b[j]) (a := a[j]) HJ.out.2.1
        have su := fun (hx : ∃ x, a[j] = b[j] ||| x) => (HJ.out.2).snoc (c := b[j]) (a := a[j]) hx
        rw [← sa, ← sb] at sn su
        have sno : ¬ (∃ x, a[j] = b[j] ||| x) → ¬ lessS a b := fun h hh => h (hh.1.2 j b[j] a[j] (List.getElem?_eq_getElem hlt) (List.getElem?_eq_getElem hlt2))
        have heq : ((a[j].toNat : Int) == (b[j].toNat : Int)) = decide (a[j] = b[j]) := by
          by_cases h : a[j] = b[j]
          · simp [h]
          · rw [decide_eq_false h]
            have h2 : a[j].toNat ≠ b[j].toNat := fun h2 => h (UInt8.toNat.inj h2)
            exact beq_eq_false_iff_ne.2 (by omega)
        clear ea eb sa sb
        have hy := lowUp_all (a := a[j]) (c := b[j])
        have hn := fun i => lowUp_no (a := a[j]) (c := b[j]) (i := i)
        have hb1 := a[j].toNat_lt
        have hb2 := b[j].toNat_lt
        generalize decide (a[j] = b[j]) = d at heq sn
        generalize hax : a[j].toNat = x at hcell heq hy hn hb1
        generalize hbx : b[j].toNat = y at hcelb heq hy hn hb2
        clear hax hbx
        generalize decide (a.take j = b.take j) = o at sn
        have HU := Lib.hid (And.intro sn (And.intro (fun h => su (hy h)) (fun i h1 h2 => sno (hn i h1 h2))))
        clear sn su sno hy hn
        cases o <;> cases d
        all_goals
          go_wp2_with fail
          go_quiet (fail)
          go_wp2_with fail
          obtain ⟨wo, rfl⟩ : ∃ wo : World, wo = w.drewN (n + nq) := ⟨_, rfl⟩
          go_loopg [7] 8 (fun k i wr => ∃ q : Nat, q + k = 8 ∧ i = .int .i64 ((2 ^ q : Nat) : Int) ∧ wr = w.drewN (n + nq) ∧ lowUp y x q)
          case atStart => exact ⟨0, rfl, rfl, World.drewN_drewN .., fun i hi => absurd hi (Nat.not_lt_zero _)⟩
          case round =>
            obtain ⟨q, hq, rfl, rfl, hlow⟩ := hrel
            have HQ := Lib.hid (And.intro hq hlow)
            by_cases hq8 : q < 8
            · have hp1 : 1 ≤ 2 ^ q := Nat.one_le_two_pow
              have hp2 : 2 ^ q ≤ 128 := Nat.pow_le_pow_right (n := 2) (j := 7) (by decide) (by omega)
              have hno := HU.out.2.2 q
              have hyes := fun h => lowUp_succ (x := y) (y := x) hlow h
              have hpq : 2 ^ (q + 1) = 2 * 2 ^ q := by rw [Nat.pow_succ]; omega
              generalize 2 ^ q = K at hp1 hp2 hno hyes hpq
              have hK : (K : Int) ≤ 128 := by omega
              have hdx := tdiv_nat x K
              have hdy := tdiv_nat y K
              have hmx := tmod_two (x / K)
              have hmy := tmod_two (y / K)
              have hlex : x / K ≤ 255 := Nat.le_trans (Nat.div_le_self _ _) (by omega)
              have hley : y / K ≤ 255 := Nat.le_trans (Nat.div_le_self _ _) (by omega)
              have hm2x : x / K % 2 < 2 := Nat.mod_lt _ (by omega)
              have hm2y : y / K % 2 < 2 := Nat.mod_lt _ (by omega)
              have HS := Lib.hid (And.intro hno (And.intro hyes hpq))
              clear hno hyes hpq hq hlow
              generalize x / K = xk at hdx hmx hlex hm2x HS
              generalize y / K = yk at hdy hmy hley hm2y HS
              generalize xk % 2 = bx at hmx hm2x HS
              generalize yk % 2 = by' at hmy hm2y HS
              by_cases hby : by' = 1
              · subst hby
                by_cases hbx : bx = 0
                · subst hbx
                  go_wp2_with fail
                  go_ret
                  exact ⟨ret_bool (decide_eq_false (HS.out.1 (by trivial) (by trivial))).symm, Drawn.mk w _⟩
                · obtain rfl : bx = 1 := by omega
                  go_wp2_with fail
                  go_roundg (8 - (q + 1))
                  case measure => have := HQ.out.1; omega
                  case rel => exact ⟨q + 1, by have := HQ.out.1; omega, by rw [HS.out.2.2]; go_num, rfl, HS.out.2.1 fun _ => by trivial⟩
              · obtain rfl : by' = 0 := by omega
                go_wp2_with fail
                go_roundg (8 - (q + 1))
                case measure => have := HQ.out.1; omega
                case rel => exact ⟨q + 1, by have := HQ.out.1; omega, by rw [HS.out.2.2]; go_num, rfl, HS.out.2.1 fun h => by cases h⟩
            · obtain rfl : q = 8 := by omega
              clear hq hlow
              go_wp2_with fail
              go_roundg (b.length - (j + 1))
              case measure => have := HJ.out.1; omega
              case rel => exact ⟨j + 1, n + nq, by have := HJ.out.1; omega, by rw [HU.out.1]; rfl, by go_num, rfl, HU.out.2.1 HQ.out.2⟩
      · have hjx : j = b.length := by have := HJ.out.1; omega
        have hfin : (!decide (a.take j = b.take j)) = decide (lessS a b) := by
          have hup := HJ.out.2
          rw [hjx, List.take_length, List.take_of_length_le (by rw [HR.out.2.2]; exact Nat.le_refl _)] at hup ⊢
          rw [← decide_not]
          exact decide_eq_decide.2 ⟨fun h => ⟨hup, h⟩, fun h => h.2⟩
        generalize decide (a.take j = b.take j) = o at hfin
        have HF := Lib.hid hfin
        clear hfin hjx
        go_wp2_with fail
        go_ret
        exact ⟨ret_bool HF.out, Drawn.mk w n⟩
  · have hne : ((a.length : Int) != (b.length : Int)) = true := by simp; omega
    have HN := Lib.hid (show ¬ lessS a b from fun h => hl h.1.1.symm)
    clear ha hb hl
    go_enter Try.func25, Try.ntmps25
    go_wp2_with fail
    go_ret
    exact ⟨ret_bool (decide_eq_false HN.out).symm, Drawn.refl w⟩
end Go.Proofs.Ytdeapijcoeedbaa
