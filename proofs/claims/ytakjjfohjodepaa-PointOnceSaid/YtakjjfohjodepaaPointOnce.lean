/- The walk of PointOnce (layer 17). -/
import Derived.Test.YtakjjfohjodepaaPointBack
import Derived.Test.YtakjjfohjodepaaAppC
import Derived.Test.YtakjjfohjodepaaSameK
set_option linter.unusedVariables false
set_option linter.unusedSimpArgs false
namespace Go.Proofs.Ytakjjfohjodepaa
open Go.RowKit

theorem getPoint_at (w : World) (A : Option Addr) (c n : Nat) (xs : List UInt8) (hn : xs.length = n) (hr : RV w A (bv xs)) (hx : n ≤ 140737488355328) :
    Calls Try.prog 9 #[.slice A n c] w (GetPointEnd w (getPointS xs)) := by
  subst hn
  exact getPoint_any w A c xs hr hx
theorem getPointS_short {xs : List UInt8} (h : xs.length < 12) : getPointS xs = ((0, 0, 0, 0), 4) := by
  unfold getPointS
  rw [if_pos h]
theorem getPointS_long {xs : List UInt8} (h : 12 < xs.length) : getPointS xs = ((0, 0, 0, 0), 5) := by
  unfold getPointS
  rw [if_neg (by omega), if_neg (by omega)]
theorem getPointS_code (xs : List UInt8) : (getPointS xs).2 ≤ 5 := by
  unfold getPointS
  split
  · decide
  · split
    · exact Nat.zero_le _
    · decide
theorem putPointS_128 {n : Nat} {b p c : Int} (h : mayP n b p c) : (putPointS 128 n b p c).2 = 0 := by
  unfold putPointS putPageS
  rw [if_pos h, if_neg (by decide), if_neg (by rw [pointB_length]; decide)]

set_option maxRecDepth 100000 in
set_option maxHeartbeats 2000000 in
theorem walkPointOnce (w : World) (A : Option Addr) (c : Nat) (xs : List UInt8) (hr : RV w A (bv xs)) (hl : xs.length ≤ c) (hm : c ≤ maxLen) (hR : xs.length ≤ 140737488351232)
    (B : Option Addr) (d : Nat) (ys : List UInt8) (hr' : RV w B (bv ys)) (hl' : ys.length ≤ d) (hm' : d ≤ maxLen) (hR' : ys.length ≤ 140737488351232) :
    Calls Try.prog 5 #[.slice A xs.length c, .slice B ys.length d] w fun e w' => e = .returned (.bool true) ∧ Below w.heap.size w w' := by
  have HR := Lib.hid (And.intro hr (And.intro hl (And.intro hm (And.intro hr' (And.intro hl' hm')))))
  clear hr hr' hm hm' hl'
  go_enter Try.func5, Try.ntmps5
  go_wp2_with fail
  refine (getPoint_any w A c xs HR.out.1 (by omega)).mono ?_
  rintro e w1 ⟨rfl, hb1⟩
  by_cases hz : (getPointS xs).2 = 0
  · obtain ⟨h12, n, b, p, q, hg, hn, hmay, hpb⟩ := putPoint_get hz
    have hp0 := putPointS_128 hmay
    have hgs := (putPointS_ok hp0).2
    rw [hpb] at hgs
    rw [hg]
    dsimp only [pointV]
    have hB1 := hb1.alloc hb1.size (.cells #[.int .u64 (n : Int), .int .i64 (b : Int), .int .i64 (p : Int), .int .i64 (q : Int)] 26)
    have H1 := Lib.hid (And.intro hB1 (And.intro hp0 (And.intro hgs (And.intro hg h12))))
    clear hb1 hB1 hp0 hgs hz hmay hpb hg
    obtain ⟨ad, rfl, hcell⟩ := HR.out.1 (by rw [bv_length]; omega)
    clear hcell
    generalize hL : xs.length = L at *
    have HL := Lib.hid hL
    clear hL
    obtain rfl : L = 12 := h12
    go_wp2_with fail
    refine (putPoint_any _ 128 n b p q hn).mono ?_
    rintro e w2 ⟨v2, rfl, ho2, hb2⟩
    rw [H1.out.2.1]
    have H2 := Lib.hid (And.intro ho2 (below_then H1.out.1 H1.out.1.size hb2))
    have H3 := Lib.hid H1.out.2.2.1
    clear ho2 hb2
    generalize (putPointS 128 n b p q).1 = P at H2 H3
    go_wp2_with fail
    refine (dGet_own w2 _ v2 P H2.out.1).mono ?_
    rintro e w3 ⟨v3, rfl, ho3, hb3⟩
    rw [H3.out] at ho3 ⊢
    dsimp only at ho3 ⊢
    have H4 := Lib.hid (And.intro ho3 (below_then H2.out.2 H2.out.2.size hb3))
    clear ho3 hb3
    go_wp2_with (go_at_call 15; refine (same_at w3 _ v3 xs _ c 12 xs HL.out H4.out.1 (HR.out.1.below H4.out.2)).mono ?_; rintro e w4 ⟨rfl, hd⟩; rw [decide_eq_true rfl]; have H5 := Lib.hid (H4.out.2.trans (hd.below _)); clear hd)
    refine (getPoint_at w4 (some ad) c 11 (xs.take 11) (by rw [List.length_take, HL.out]; rfl) (by rw [bv_take]; exact (HR.out.1.take 11).below H5.out) (by decide)).mono ?_
    rintro e w5 ⟨rfl, hb5⟩
    rw [getPointS_short (xs := xs.take 11) (by rw [List.length_take, HL.out]; decide)]
    dsimp only [pointV]
    have hB5 := below_then H5.out H5.out.size hb5
    have H6 := Lib.hid (hB5.alloc hB5.size (.cells #[.int .u64 ((0 : Nat) : Int), .int .i64 ((0 : Nat) : Int), .int .i64 ((0 : Nat) : Int), .int .i64 ((0 : Nat) : Int)] 26))
    clear hb5 hB5
    have hys : ys.length = 0 ∧ ((ys.length : Int) == 0) = true ∨ 0 < ys.length ∧ ((ys.length : Int) == 0) = false := by
      by_cases h : ys.length = 0
      · left; simp [h]
      · right; exact ⟨by omega, beq_eq_false_iff_ne.2 (by omega)⟩
    generalize hM : ys.length = M at *
    have HM := Lib.hid hM
    clear hM
    rcases hys with ⟨hy0, hyd⟩ | ⟨hy0, hyd⟩
    · have hgx : getPointS (xs ++ ys) = ((n, b, p, q), 0) := by
        have : ys = [] := List.eq_nil_of_length_eq_zero (by rw [HM.out, hy0])
        rw [this, List.append_nil]
        exact H1.out.2.2.2.1
      have HG := Lib.hid hgx
      clear hgx
      go_wp2_with (at_builtin; refine wpList_appC _ rfl _ _ 22 rfl 5 Try.underlying22 u8info ad 12 xs rfl HL.out (HR.out.1.below H6.out) B M d ys rfl HM.out (HR.out.2.2.2.1.below H6.out) (by omega) ?_)
      rintro v6 w6 ⟨A6, c6, rfl, hr6, _, _, hb6⟩
      have H7 := Lib.hid (And.intro hr6 (below_then H6.out H6.out.size hb6))
      clear hr6 hb6
      go_wp2_with fail
      refine (getPoint_at w6 A6 c6 12 (xs ++ ys) (by rw [List.length_append, HL.out, HM.out, hy0]) H7.out.1 (by omega)).mono ?_
      rintro e w7 ⟨rfl, hb7⟩
      rw [HG.out]
      dsimp only [pointV]
      have hB7 := below_then H7.out.2 H7.out.2.size hb7
      have H8 := Lib.hid (hB7.alloc hB7.size (.cells #[.int .u64 (n : Int), .int .i64 (b : Int), .int .i64 (p : Int), .int .i64 (q : Int)] 26))
      clear hb7 hB7
      go_wp2_with (go_at_call 12; refine (lives_any _).mono ?_; rintro e w8 ⟨rfl, hb⟩; have HB := Lib.hid (below_then H8.out H8.out.size hb); clear hb)
      go_ret
      exact ⟨rfl, HB.out⟩
    · have hgx : getPointS (xs ++ ys) = ((0, 0, 0, 0), 5) := getPointS_long (by rw [List.length_append, HL.out, HM.out]; omega)
      have HG := Lib.hid hgx
      clear hgx
      go_wp2_with (at_builtin; refine wpList_appC _ rfl _ _ 22 rfl 5 Try.underlying22 u8info ad 12 xs rfl HL.out (HR.out.1.below H6.out) B M d ys rfl HM.out (HR.out.2.2.2.1.below H6.out) (by omega) ?_)
      rintro v6 w6 ⟨A6, c6, rfl, hr6, _, _, hb6⟩
      have H7 := Lib.hid (And.intro hr6 (below_then H6.out H6.out.size hb6))
      clear hr6 hb6
      go_wp2_with fail
      refine (getPoint_at w6 A6 c6 (12 + M) (xs ++ ys) (by rw [List.length_append, HL.out, HM.out]) H7.out.1 (by omega)).mono ?_
      rintro e w7 ⟨rfl, hb7⟩
      rw [HG.out]
      dsimp only [pointV]
      have hB7 := below_then H7.out.2 H7.out.2.size hb7
      have H8 := Lib.hid (hB7.alloc hB7.size (.cells #[.int .u64 ((0 : Nat) : Int), .int .i64 ((0 : Nat) : Int), .int .i64 ((0 : Nat) : Int), .int .i64 ((0 : Nat) : Int)] 26))
      clear hb7 hB7
      go_wp2_with (go_at_call 12; refine (lives_any _).mono ?_; rintro e w8 ⟨rfl, hb⟩; have HB := Lib.hid (below_then H8.out H8.out.size hb); clear hb)
      go_ret
      exact ⟨rfl, HB.out⟩
  · have hn0 := getPoint_no hz
    have hc5 := getPointS_code xs
    rw [hn0]
    dsimp only [pointV]
    generalize (getPointS xs).2 = er at *
    have hne : ((er : Int) != 0) = true := by simp; omega
    have HA := Lib.hid (hb1.alloc hb1.size (.cells #[.int .u64 ((0 : Nat) : Int), .int .i64 ((0 : Nat) : Int), .int .i64 ((0 : Nat) : Int), .int .i64 ((0 : Nat) : Int)] 26))
    clear hb1 hn0
    go_wp2_with (go_at_call 12; refine (lives_any _).mono ?_; rintro e w5 ⟨rfl, hb⟩; have HB := Lib.hid (below_then HA.out HA.out.size hb); clear hb)
    go_ret
    exact ⟨rfl, HB.out⟩
end Go.Proofs.Ytakjjfohjodepaa
