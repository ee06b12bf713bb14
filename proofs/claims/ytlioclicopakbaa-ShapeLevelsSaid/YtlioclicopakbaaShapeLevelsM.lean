import Derived.Test.YtlioclicopakbaaDShEM
import Derived.Test.YtlioclicopakbaaWorks16M
set_option linter.unusedVariables false
set_option linter.unusedSimpArgs false
/- ShapeLevels: the walk. -/
namespace Go.Proofs.Ytlioclicopakbaa
open Go.RowKit

theorem levelsS_code (s : Int) (l : List Fct) : (levelsS s l).2 ≤ 3 := by
  unfold levelsS
  split
  · exact shCut_code s (itsL l) 1
  · simp

set_option maxRecDepth 100000 in
set_option maxHeartbeats 1000000 in
theorem walkShapeLevels (w : World) (s : Int) (ws : (Lit.int .i64 s).wf = true) (A : Option Addr) (d : Nat) (l : List Fct) (hin : FctsIn w A l.length l) (hvl : ∀ f ∈ l, f.val.length ≤ 140737488351232) (hn : l.length * 64 ≤ 140737488351232) :
    Calls Try.prog 4 #[.int .i64 s, .slice A l.length d] w fun e w' => e = .returned (.bool true) ∧ Below w.heap.size w w' := by
  obtain ⟨n, hl⟩ : ∃ n, l.length = n := ⟨_, rfl⟩
  rw [hl] at hin hn ⊢
  have H := Lib.hid (And.intro hin hvl)
  have HP := Lib.hid (fun w h => levels_any w s A n d l h hvl hn)
  have HD := Lib.hid (fun w h => dLevels_any w s A n d l h hvl hn)
  have hc := levelsS_code s l
  clear hin hvl hl ws
  generalize levelsS s l = r at *
  obtain ⟨xs, e⟩ := r
  dsimp only at HP HD hc
  obtain ⟨m, hm⟩ : ∃ m, xs.length = m := ⟨_, rfl⟩
  have HM := Lib.hid hm
  clear hm
  go_enter Try.func4, Try.ntmps4
  go_wp2_with fail
  refine (HP.out w H.out.1).mono ?_
  rintro e1 w1 ⟨v1, rfl, ho1, hb1⟩
  obtain ⟨A1, c1, rfl, hrv1, hl1, hm1⟩ := OwnI.slice ho1
  dsimp only at hrv1 hl1 ⊢
  rw [HM.out] at hl1 ⊢
  have H1 := Lib.hid (And.intro hrv1 (And.intro (ListIn.below fct_len (by decide) H.out.1 hb1) hb1))
  clear hrv1 ho1 hb1
  go_wp2_with fail
  refine (HD.out w1 H1.out.2.1).mono ?_
  rintro e2 w2 ⟨v2, rfl, ho2, hb2⟩
  obtain ⟨A2, c2, rfl, hrv2, _, _⟩ := OwnI.slice ho2
  dsimp only at hrv2 ⊢
  rw [HM.out]
  have H2 := Lib.hid (And.intro (H1.out.1.below hb2) (And.intro hrv2 (below_then H1.out.2.2 H1.out.2.2.size hb2)))
  clear hrv2 ho2 hb2
  go_wp2_with fail
  refine (ints_eq A1 A2 c1 c2 m m xs w2 H2.out.1 H2.out.2.1 HM.out HM.out (Nat.le_trans hl1 hm1)).mono ?_
  rintro e3 w3 ⟨rfl, hb3⟩
  have H3 := Lib.hid (below_then H2.out.2.2 H2.out.2.2.size hb3)
  clear hb3
  go_wp2_with (go_at_call 16; refine (lives16_any _).mono ?_; rintro e4 w4 ⟨rfl, hb4⟩; have H4 := Lib.hid (below_then H3.out H3.out.size hb4); clear hb4)
  go_ret
  exact ⟨rfl, H4.out⟩
end Go.Proofs.Ytlioclicopakbaa
