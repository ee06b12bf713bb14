import Derived.Test.YtdagdjaefgadfaaWorks11M
set_option linter.unusedVariables false
set_option linter.unusedSimpArgs false
/- RecDrops: the walk. -/
namespace Go.Proofs.Ytdagdjaefgadfaa
open Go.RowKit

theorem putDropS_code (s : Int) (q : Nat) : (putDropS s q).2 ≤ 3 := by
  unfold putDropS
  split
  · simp
  · unfold putPageS
    split
    · simp
    · split <;> simp
theorem getDropS_bd (xs : List UInt8) : (getDropS xs).1 < 18446744073709551616 ∧ (getDropS xs).2 ≤ 5 := by
  unfold getDropS
  split
  · simp
  · rename_i h
    refine ⟨leval_lt64 xs ?_, by simp⟩
    omega

set_option maxRecDepth 100000 in
set_option maxHeartbeats 1000000 in
theorem walkRecDrops (w : World) (s : Int) (ws : (Lit.int .i64 s).wf = true) (q : Int) (wq : (Lit.int .u64 q).wf = true) (A : Option Addr) (d : Nat) (xs : List UInt8) (hr : RV w A (bv xs)) (hl : xs.length ≤ d) (hm : d ≤ maxLen) (hR : xs.length ≤ 140737488351232) :
    Calls Try.prog 7 #[.int .i64 s, .int .u64 q, .slice A xs.length d] w fun e w' => e = .returned (.bool true) ∧ Below w.heap.size w w' := by
  obtain ⟨k, rfl, hk⟩ : ∃ k : Nat, q = k ∧ k < 18446744073709551616 := by
    simp [Lit.wf, IntKind.min, IntKind.max, IntKind.signed, IntKind.bits] at wq
    exact ⟨q.toNat, by omega, by omega⟩
  obtain ⟨n, hn⟩ : ∃ n, xs.length = n := ⟨_, rfl⟩
  rw [hn] at hl hR ⊢
  have H := Lib.hid hr
  have HP := Lib.hid (fun w => putDrop_any w s k hk)
  have HD := Lib.hid (fun w => dPutDrop_any w s k hk)
  have HG := Lib.hid (fun w h => getDrop_any w A n d xs hn h (by omega))
  have HH := Lib.hid (fun w h => dGetDrop_any w A n d xs hn h hl hm)
  have hc := putDropS_code s k
  have hg := getDropS_bd xs
  clear hr hn ws wq
  generalize putDropS s k = r at *
  obtain ⟨ys, e⟩ := r
  generalize getDropS xs = t at *
  obtain ⟨a, b⟩ := t
  dsimp only at HP HD hc hg HG HH
  obtain ⟨hg1, hg2⟩ := hg
  go_enter Try.func7, Try.ntmps7
  go_wp2_with fail
  refine (HP.out w).mono ?_
  rintro e1 w1 ⟨v1, rfl, ho1, hb1⟩
  have H1 := Lib.hid (And.intro ho1 (And.intro (H.out.below hb1) hb1))
  clear ho1 hb1
  go_wp2_with fail
  refine (HD.out w1).mono ?_
  rintro e2 w2 ⟨v2, rfl, ho2, hb2⟩
  have H2 := Lib.hid (And.intro (H1.out.1.below hb2) (And.intro ho2 (And.intro (H1.out.2.1.below hb2) (below_then H1.out.2.2 H1.out.2.2.size hb2))))
  clear ho2 hb2
  go_wp2_with fail
  refine (HG.out w2 H2.out.2.2.1).mono ?_
  rintro e3 w3 ⟨rfl, hb3⟩
  have H3 := Lib.hid (And.intro (H2.out.1.below hb3) (And.intro (H2.out.2.1.below hb3) (And.intro (H2.out.2.2.1.below hb3) (below_then H2.out.2.2.2 H2.out.2.2.2.size hb3))))
  clear hb3
  dsimp only
  go_wp2_with fail
  refine (HH.out w3 H3.out.2.2.1).mono ?_
  rintro e4 w4 ⟨rfl, hb4⟩
  have H4 := Lib.hid (And.intro (H3.out.1.below hb4) (And.intro (H3.out.2.1.below hb4) (below_then H3.out.2.2.2 H3.out.2.2.2.size hb4)))
  clear hb4
  dsimp only
  go_wp2_with fail
  refine (same_oo w4 _ _ v1 v2 ys ys H4.out.1 H4.out.2.1).mono ?_
  rintro e5 w5 ⟨rfl, hd5⟩
  rw [decide_eq_true rfl]
  have H5 := Lib.hid (below_then H4.out.2.2 H4.out.2.2.size (hd5.below _))
  clear hd5
  go_wp2_with (go_at_call 12; refine (works11_any _).mono ?_; rintro e6 w6 ⟨rfl, hb6⟩; have H6 := Lib.hid (below_then H5.out H5.out.size hb6); clear hb6)
  go_ret
  exact ⟨rfl, H6.out⟩
end Go.Proofs.Ytdagdjaefgadfaa
