import Derived.Test.YtdagdjaefgadfaaWorks11M
set_option linter.unusedVariables false
set_option linter.unusedSimpArgs false
/- RecPuts: the walk. -/
namespace Go.Proofs.Ytdagdjaefgadfaa
open Go.RowKit

theorem putPageS_code (s : Int) (k : UInt8) (b : List UInt8) : (putPageS s k b).2 ≤ 3 := by
  unfold putPageS
  split
  · simp
  · split <;> simp
theorem recPutS_code (s : Int) (cs : List Chg) : (recPutS s cs).2 ≤ 3 := by
  unfold recPutS
  split
  · exact putPageS_code _ _ _
  · simp

set_option maxRecDepth 100000 in
set_option maxHeartbeats 1000000 in
theorem walkRecPuts (w : World) (s : Int) (ws : (Lit.int .i64 s).wf = true) (A : Option Addr) (d : Nat) (l : List Chg) (hin : ChgsIn w A l.length l) (hvl : ∀ f ∈ l, f.val.length ≤ 140737488351232) (hn : l.length * 72 ≤ 140737488351232) :
    Calls Try.prog 6 #[.int .i64 s, .slice A l.length d] w fun e w' => e = .returned (.bool true) ∧ Below w.heap.size w w' := by
  obtain ⟨n, hl⟩ : ∃ n, l.length = n := ⟨_, rfl⟩
  rw [hl] at hin hn ⊢
  have hn' : n ≤ maxLen := by unfold maxLen; omega
  have H := Lib.hid hin
  have HP := Lib.hid (fun w h => recPut_any w s A n d l h hn')
  have HD := Lib.hid (fun w h => dRecPut_any w s A n d l h hn')
  have HL := Lib.hid (And.intro (fun w h => lenRec_any w A n d l h hn') (fun w h => dLenRec_any w A n d l h hn'))
  have hc := recPutS_code s l
  clear hin hvl hl ws hn'
  generalize recPutS s l = r at *
  obtain ⟨xs, e⟩ := r
  generalize lenRecS l = L at *
  dsimp only at HP HD hc
  obtain ⟨m, hm⟩ : ∃ m, xs.length = m := ⟨_, rfl⟩
  have HM := Lib.hid hm
  clear hm
  go_enter Try.func6, Try.ntmps6
  go_wp2_with fail
  refine (HP.out w H.out).mono ?_
  rintro e1 w1 ⟨v1, rfl, ho1, hb1⟩
  have H1 := Lib.hid (And.intro ho1 (And.intro (ListIn.below chg_len (by decide) H.out hb1) hb1))
  clear ho1 hb1
  go_wp2_with fail
  refine (HD.out w1 H1.out.2.1).mono ?_
  rintro e2 w2 ⟨v2, rfl, ho2, hb2⟩
  have H2 := Lib.hid (And.intro (H1.out.1.below hb2) (And.intro ho2 (And.intro (ListIn.below chg_len (by decide) H1.out.2.1 hb2) (below_then H1.out.2.2 H1.out.2.2.size hb2))))
  clear ho2 hb2
  go_wp2_with fail
  refine (same_oo w2 _ _ v1 v2 xs xs H2.out.1 H2.out.2.1).mono ?_
  rintro e3 w3 ⟨rfl, hd3⟩
  rw [decide_eq_true rfl]
  have hb3 := hd3.below w2.heap.size
  have H3 := Lib.hid (And.intro (ListIn.below chg_len (by decide) H2.out.2.2.1 hb3) (below_then H2.out.2.2.2 H2.out.2.2.2.size hb3))
  clear hd3 hb3
  go_wp2_with fail
  refine (HL.out.1 w3 H3.out.1).mono ?_
  rintro e4 w4 ⟨rfl, hb4⟩
  have H4 := Lib.hid (And.intro (ListIn.below chg_len (by decide) H3.out.1 hb4) (below_then H3.out.2 H3.out.2.size hb4))
  clear hb4
  go_wp2_with fail
  refine (HL.out.2 w4 H4.out.1).mono ?_
  rintro e5 w5 ⟨rfl, hb5⟩
  have H5 := Lib.hid (below_then H4.out.2 H4.out.2.size hb5)
  clear hb5
  go_wp2_with (go_at_call 12; refine (works11_any _).mono ?_; rintro e6 w6 ⟨rfl, hb6⟩; have H6 := Lib.hid (below_then H5.out H5.out.size hb6); clear hb6)
  go_ret
  exact ⟨rfl, H6.out⟩
end Go.Proofs.Ytdagdjaefgadfaa
