import Derived.Test.YtlioclicopakbaaDShLM
import Derived.Test.YtlioclicopakbaaWorks16M
set_option linter.unusedVariables false
set_option linter.unusedSimpArgs false
/- ShapeCuts: the walk. -/
namespace Go.Proofs.Ytlioclicopakbaa
open Go.RowKit

set_option maxRecDepth 100000 in
set_option maxHeartbeats 2000000 in
theorem walkShapeCuts (w : World) (s : Int) (ws : (Lit.int .i64 s).wf = true) (A : Option Addr) (d : Nat) (l : List Fct) (hin : FctsIn w A l.length l) (hvl : ∀ f ∈ l, f.val.length ≤ 140737488351232) (hn : l.length * 64 ≤ 140737488351232) :
    Calls Try.prog 3 #[.int .i64 s, .slice A l.length d] w fun e w' => e = .returned (.bool true) ∧ Below w.heap.size w w' := by
  obtain ⟨n, hl⟩ : ∃ n, l.length = n := ⟨_, rfl⟩
  rw [hl] at hin hn ⊢
  have H := Lib.hid (And.intro hin hvl)
  have HP := Lib.hid (fun w h => leaves_any w s A n d l h hvl hn)
  have HD := Lib.hid (fun w h => dLeaves_any w s A n d l h hvl hn)
  have HK := Lib.hid (fun w h => keys16_any w A n d l h hn)
  have hc : (leavesS s l).2 ≤ 3 := shCut_code s (itsL l) 1
  have hc2 : (aboveS s (l.map (·.key))).2 ≤ 3 := shCut_code s (itsA _) 2
  obtain ⟨ks, hks⟩ : ∃ ks, l.map (·.key) = ks := ⟨_, rfl⟩
  rw [hks] at HK hc2
  clear hin hvl hl ws hks
  have HA := Lib.hid (fun w A d h => above_any w s A n d ks h (by omega))
  have HB := Lib.hid (fun w A d h h2 h3 => dAbove_any w s A n d ks h (by omega) h2 h3)
  generalize leavesS s l = r at *
  obtain ⟨xs, ce⟩ := r
  generalize aboveS s ks = r2 at *
  obtain ⟨ys, cf⟩ := r2
  dsimp only at HP HD hc HA HB hc2
  obtain ⟨m, hm⟩ : ∃ m, xs.length = m := ⟨_, rfl⟩
  obtain ⟨q, hq⟩ : ∃ q, ys.length = q := ⟨_, rfl⟩
  have HM := Lib.hid (And.intro hm hq)
  clear hm hq
  go_enter Try.func3, Try.ntmps3
  go_wp2_with fail
  refine (HP.out w H.out.1).mono ?_
  rintro e1 w1 ⟨v1, rfl, ho1, hb1⟩
  obtain ⟨A1, c1, rfl, hrv1, hl1, hm1⟩ := OwnI.slice ho1
  dsimp only at hrv1 hl1 ⊢
  rw [HM.out.1] at hl1 ⊢
  have H1 := Lib.hid (And.intro hrv1 (And.intro (ListIn.below fct_len (by decide) H.out.1 hb1) hb1))
  clear hrv1 ho1 hb1
  go_wp2_with fail
  refine (HD.out w1 H1.out.2.1).mono ?_
  rintro e2 w2 ⟨v2, rfl, ho2, hb2⟩
  obtain ⟨A2, c2, rfl, hrv2, _, _⟩ := OwnI.slice ho2
  dsimp only at hrv2 ⊢
  rw [HM.out.1]
  have H2 := Lib.hid (And.intro (H1.out.1.below hb2) (And.intro hrv2 (And.intro (ListIn.below fct_len (by decide) H1.out.2.1 hb2) (below_then H1.out.2.2 H1.out.2.2.size hb2))))
  clear hrv2 ho2 hb2
  go_wp2_with fail
  refine (ints_eq A1 A2 c1 c2 m m xs w2 H2.out.1 H2.out.2.1 HM.out.1 HM.out.1 (Nat.le_trans hl1 hm1)).mono ?_
  rintro e3 w3 ⟨rfl, hb3⟩
  have H3 := Lib.hid (And.intro (ListIn.below fct_len (by decide) H2.out.2.2.1 hb3) (below_then H2.out.2.2.2 H2.out.2.2.2.size hb3))
  clear hb3
  go_wp2_with fail
  refine (HK.out w3 H3.out.1).mono ?_
  rintro e4 w4 ⟨v4, rfl, ho4, hb4⟩
  obtain ⟨A4, c4, rfl, hin4, hl4, hm4, _⟩ := OwnL.listIn ky_len ho4
  have H4 := Lib.hid (And.intro hin4 (below_then H3.out.2 H3.out.2.size hb4))
  clear ho4 hin4 hb4
  go_wp2_with fail
  refine (HA.out w4 A4 c4 H4.out.1).mono ?_
  rintro e5 w5 ⟨v5, rfl, ho5, hb5⟩
  obtain ⟨A5, c5, rfl, hrv5, hl5, hm5⟩ := OwnI.slice ho5
  dsimp only at hrv5 hl5 ⊢
  rw [HM.out.2] at hl5 ⊢
  have H5 := Lib.hid (And.intro hrv5 (And.intro (ListIn.below ky_len (by decide) H4.out.1 hb5) (below_then H4.out.2 H4.out.2.size hb5)))
  clear hrv5 ho5 hb5
  go_wp2_with fail
  refine (HB.out w5 A4 c4 H5.out.2.1 hl4 hm4).mono ?_
  rintro e6 w6 ⟨v6, rfl, ho6, hb6⟩
  obtain ⟨A6, c6, rfl, hrv6, _, _⟩ := OwnI.slice ho6
  dsimp only at hrv6 ⊢
  rw [HM.out.2]
  have H6 := Lib.hid (And.intro (H5.out.1.below hb6) (And.intro hrv6 (And.intro (ListIn.below ky_len (by decide) H5.out.2.1 hb6) (below_then H5.out.2.2 H5.out.2.2.size hb6))))
  clear hrv6 ho6 hb6
  go_wp2_with fail
  go_loopg [14] n (fun k i wr => ∃ j : Nat, j + k = n ∧ i = .int .i64 j ∧ Below w6.heap.size w6 wr)
  case atStart => exact ⟨0, by omega, rfl, Below.refl _ _⟩
  case round =>
    obtain ⟨j, hj, rfl, hb⟩ := hrel
    have HX := Lib.hid (And.intro hj hb)
    clear hj hb
    by_cases hlt : j < n
    · obtain ⟨k, hk⟩ : ∃ k, ks[j]? = some k := ⟨_, List.getElem?_eq_getElem (by have := H6.out.2.2.1.1; omega)⟩
      obtain ⟨okk, ad, hA, hblk, x0, x1, x2, x3⟩ := KeysIn.at_ H6.out.2.2.1 hk
      subst hA
      have old : ∀ (p : InC (fun w' => Below w6.heap.size w6 w')) {q : Addr} {u : Value}, w6.cell? q = some u → q.block < w6.heap.size → p.w.cell? q = some u := fun p _ _ hu hp => (World.cell?_of_block (p.h.block _ hp)).trans hu
      have m0 := fun p => old p x0 hblk
      have m1 := fun p => old p x1 hblk
      have m2 := fun p => old p x2 hblk
      have m3 := fun p => old p x3 hblk
      have HE1 := Lib.hid (fun w => endK_any w k okk)
      have HE2 := Lib.hid (fun w => dEndK_any w k okk)
      have hjn : (j : Int) < (n : Int) := by omega
      clear x0 x1 x2 x3 old hk okk
      obtain ⟨b, hb⟩ : ∃ b, endS k = b := ⟨_, rfl⟩
      rw [hb] at HE1 HE2
      clear hb
      obtain ⟨fi, fa, fs, fc⟩ := k
      unfold Ky.val at HE1 HE2
      dsimp only at m0 m1 m2 m3 HE1 HE2
      have HMM := Lib.hid (And.intro m0 (And.intro m1 (And.intro m2 m3)))
      clear m0 m1 m2 m3
      go_wp2_with fail
      obtain ⟨m0, m1, m2, m3⟩ := HMM.out
      have hinh : Nonempty (InC (fun w' => Below w6.heap.size w6 w')) := ⟨⟨_, HX.out.2⟩⟩
      refine wp_region_class (fun w' => Below w6.heap.size w6 w') (by kernel_rfl) (by kernel_rfl) HX.out.2.drew ?_
      repeat (go_big_quiet_step ((first | (go_at_call 14; rename_i p; exact class_call (HE1.out _) (fun _ hb => below_then p.h p.h.size hb)) | (go_at_call 15; rename_i p; exact class_call (HE2.out _) (fun _ hb => below_then p.h p.h.size hb)))))
      refine wpQuiet_nil ?_
      rintro _ ⟨p4, rfl⟩
      clear hinh m0 m1 m2 m3
      have HM4 := Lib.hid p4.h
      generalize p4.w = w8 at HM4 ⊢
      go_wp2_with fail
      go_roundg (n - (j + 1))
      case measure => have := HX.out.1; omega
      case rel => exact ⟨j + 1, by have := HX.out.1; omega, by go_num, HM4.out⟩
    · obtain rfl : j = n := by have := HX.out.1; omega
      have hge : ¬ (j : Int) < (j : Int) := by omega
      go_wp2_with fail
      refine (ints_eq A5 A6 c5 c6 q q ys wr (H6.out.1.below HX.out.2) (H6.out.2.1.below HX.out.2) HM.out.2 HM.out.2 (Nat.le_trans hl5 hm5)).mono ?_
      rintro e7 w7 ⟨rfl, hb7⟩
      have hb6' := below_then H6.out.2.2.2 H6.out.2.2.2.size HX.out.2
      have H7 := Lib.hid (below_then hb6' hb6'.size hb7)
      clear hb7 hb6'
      go_wp2_with (go_at_call 16; refine (lives16_any _).mono ?_; rintro e9 w9 ⟨rfl, hb9⟩; have H9 := Lib.hid (below_then H7.out H7.out.size hb9); clear hb9)
      go_ret
      exact ⟨rfl, H9.out⟩
end Go.Proofs.Ytlioclicopakbaa
