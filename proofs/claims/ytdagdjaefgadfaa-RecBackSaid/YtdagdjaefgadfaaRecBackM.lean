import Derived.Test.YtdagdjaefgadfaaWorks11M
import Derived.Test.YtdagdjaefgadfaaRecKM
import Derived.Test.YtdagdjaefgadfaaMSame
set_option linter.unusedVariables false
set_option linter.unusedSimpArgs false
/- RecBack: the walk. -/
namespace Go.Proofs.Ytdagdjaefgadfaa
open Go.RowKit

set_option maxRecDepth 100000 in
set_option maxHeartbeats 4000000 in
theorem walkRecBack (w : World) (s : Int) (ws : (Lit.int .i64 s).wf = true) (A : Option Addr) (d : Nat) (l : List Chg) (hin : ChgsIn w A l.length l) (hvl : ∀ f ∈ l, f.val.length ≤ 140737488351232) (hn : l.length * 72 ≤ 140737488351232)
    (y : Int) (wy : (Lit.int .u64 y).wf = true) (B : Option Addr) (dB : Nat) (xs : List UInt8) (hr : RV w B (bv xs)) (hR : xs.length ≤ 140737488351232) :
    Calls Try.prog 8 #[.int .i64 s, .slice A l.length d, .int .u64 y, .slice B xs.length dB] w fun e w' => e = .returned (.bool true) ∧ Below w.heap.size w w' := by
  obtain ⟨q, rfl, hq⟩ : ∃ q : Nat, y = q ∧ q < 18446744073709551616 := by
    simp [Lit.wf, IntKind.min, IntKind.max, IntKind.signed, IntKind.bits] at wy
    exact ⟨y.toNat, by omega, by omega⟩
  obtain ⟨n, hl⟩ : ∃ n, l.length = n := ⟨_, rfl⟩
  obtain ⟨X, hX⟩ : ∃ X, xs.length = X := ⟨_, rfl⟩
  rw [hl] at hin hn ⊢
  rw [hX] at hR ⊢
  have hnm : n ≤ maxLen := by unfold maxLen; omega
  have HI := Lib.hid (show ChgsIn w A n l ∧ RV w B (bv xs) ∧ l.length = n ∧ xs.length = X from ⟨hin, hr, hl, hX⟩)
  have HP := Lib.hid (recPut_any w s A n d l hin hnm)
  have HL := Lib.hid (fun w h => lenRec_any w A n d l h hnm)
  have HD := Lib.hid (fun w => putDrop_any w s q hq)
  have HG := Lib.hid (fun w h => recGet_n w B X dB xs hX h (by omega))
  have hc1 := recPutS_code' s l
  have hc2 := putDropS_code' s q
  obtain ⟨hbd1, hbd2⟩ := getRecS_bd' xs
  obtain ⟨⟨pg, e1⟩, hr1⟩ : ∃ r, recPutS s l = r := ⟨_, rfl⟩
  obtain ⟨⟨pd, e2⟩, hr2⟩ : ∃ r, putDropS s q = r := ⟨_, rfl⟩
  obtain ⟨⟨m, e3⟩, hr3⟩ : ∃ r, getRecS xs = r := ⟨_, rfl⟩
  rw [hr1] at HP hc1
  rw [hr2] at HD hc2
  rw [hr3] at HG hbd1 hbd2
  dsimp only at hc1 hc2 hbd1 hbd2
  have HR := Lib.hid (And.intro hr1 (And.intro hr2 hr3))
  clear hin hvl hl wy ws hr hX hnm hr1 hr2 hr3
  obtain ⟨M, hM⟩ : ∃ M, m.length = M := ⟨_, rfl⟩
  rw [hM] at hbd1
  have HMM := Lib.hid hM
  clear hM
  by_cases h1 : e1 = 0
  case' pos =>
    subst h1
    obtain ⟨hok, hget, hp1, hp2, hb251⟩ := recPut_said HR.out.1
    have hgr := getRecS_put hok
    have hlr : lenRecS l = (bodyB l).length := if_pos hok
    rw [hlr] at HL
    obtain ⟨P, hP⟩ : ∃ P, pg.length = P := ⟨_, rfl⟩
    obtain ⟨L, hL⟩ : ∃ L, (bodyB l).length = L := ⟨_, rfl⟩
    rw [hP] at hp1 hp2
    rw [hL] at hb251 HL
    have HM := Lib.hid (And.intro hP (And.intro hget (And.intro hL hgr)))
    clear hP hget hL hgr hok hlr
    generalize bodyB l = body at *
    go_enter Try.func8, Try.ntmps8
    go_wp2_with fail
    refine HP.out.mono ?_
    rintro e w1 ⟨v1, rfl, ho1, hb1⟩
    obtain ⟨A1, d1, rfl, hrv1, hl1, hm1, _⟩ := ho1.slice
    dsimp only at hrv1 hl1 ⊢
    rw [HM.out.1] at hl1 ⊢
    have H1 := Lib.hid (And.intro hrv1 hb1)
    clear ho1 hrv1 hb1
    go_wp2_with fail
    refine (getPage_n w1 A1 P d1 pg HM.out.1 H1.out.1 hl1 hm1).mono ?_
    rw [HM.out.2.1]
    rintro e w2 ⟨v2, rfl, ho2, hb2⟩
    obtain ⟨A2, d2, rfl, hrv2, hl2, hm2, _⟩ := ho2.slice
    dsimp only at hrv2 hl2 ⊢
    rw [HM.out.2.2.1] at hl2 ⊢
    have H2 := Lib.hid (And.intro hrv2 (below_then H1.out.2 H1.out.2.size hb2))
    clear ho2 hrv2 hb2
    go_wp2_with fail
    refine (recGet_n w2 A2 L d2 body HM.out.2.2.1 H2.out.1 (by omega)).mono ?_
    rw [HM.out.2.2.2]
    rintro e w3 ⟨v3, rfl, ho3, hb3⟩
    dsimp only at ho3 ⊢
    rw [HI.out.2.2.1] at ho3
    obtain ⟨A3, d3, rfl, hin3, _, _, _⟩ := OwnL.listIn chg_len ho3
    have hb3' := below_then H2.out.2 H2.out.2.size hb3
    have H3 := Lib.hid (And.intro hin3 (And.intro (ListIn.below chg_len (by decide) HI.out.1 hb3') hb3'))
    clear ho3 hb3 hb3' hin3
    go_wp2_with fail
    refine (dChgs_eq w3 A3 n d3 l H3.out.1 A d H3.out.2.1 (by omega)).mono ?_
    rintro e w4 ⟨rfl, hd4⟩
    have hb4 := below_then H3.out.2.2 H3.out.2.2.size (hd4.below _)
    have H4 := Lib.hid (And.intro (ListIn.below chg_len (by decide) HI.out.1 hb4) hb4)
    clear hd4 hb4
    go_wp2_with fail
    refine (HL.out w4 H4.out.1).mono ?_
    rintro e w5 ⟨rfl, hb5⟩
    have HZ := Lib.hid (below_then H4.out.2 H4.out.2.size hb5)
    clear hb5
    clear HM
    generalize w5 = wz at *
    go_wp2_with fail
  case' neg =>
    have hne : ((e1 : Int) == 0) = false := beq_eq_false_iff_ne.2 (by omega)
    clear h1
    go_enter Try.func8, Try.ntmps8
    go_wp2_with fail
    refine HP.out.mono ?_
    rintro e w1 ⟨v1, rfl, ho1, hb1⟩
    dsimp only
    have HZ := Lib.hid hb1
    clear ho1 hb1
    generalize w1 = wz at *
    go_wp2_with fail
  all_goals
    by_cases h2 : e2 = 0
    case' pos =>
      subst h2
      obtain ⟨hget, hp1, hp2, hgd⟩ := drop_said hq HR.out.2.1
      obtain ⟨P, hP⟩ : ∃ P, pd.length = P := ⟨_, rfl⟩
      rw [hP] at hp1 hp2
      have HM := Lib.hid (And.intro hP (And.intro hget (And.intro (digs_length q 8) hgd)))
      clear hP hget hgd
      generalize digs q 8 = body at *
      refine (HD.out wz).mono ?_
      rintro e w1 ⟨v1, rfl, ho1, hb1⟩
      obtain ⟨A1, d1, rfl, hrv1, hl1, hm1, _⟩ := ho1.slice
      dsimp only at hrv1 hl1 ⊢
      rw [HM.out.1] at hl1 ⊢
      have H1 := Lib.hid (And.intro hrv1 (below_then HZ.out HZ.out.size hb1))
      clear ho1 hrv1 hb1
      go_wp2_with fail
      refine (getPage_n w1 A1 P d1 pd HM.out.1 H1.out.1 hl1 hm1).mono ?_
      rw [HM.out.2.1]
      rintro e w2 ⟨v2, rfl, ho2, hb2⟩
      obtain ⟨A2, d2, rfl, hrv2, hl2, hm2, _⟩ := ho2.slice
      dsimp only at hrv2 hl2 ⊢
      rw [HM.out.2.2.1] at hl2 ⊢
      have H2 := Lib.hid (And.intro hrv2 (below_then H1.out.2 H1.out.2.size hb2))
      clear ho2 hrv2 hb2
      go_wp2_with fail
      refine (getDrop_any w2 A2 8 d2 body HM.out.2.2.1 H2.out.1 (by decide)).mono ?_
      rw [HM.out.2.2.2]
      rintro e w3 ⟨rfl, hb3⟩
      dsimp only
      have HZ2 := Lib.hid (below_then H2.out.2 H2.out.2.size hb3)
      clear hb3 HM
      generalize w3 = wy at *
      go_wp2_with fail
    case' neg =>
      have hne2 : ((e2 : Int) == 0) = false := beq_eq_false_iff_ne.2 (by omega)
      clear h2
      refine (HD.out wz).mono ?_
      rintro e w1 ⟨v1, rfl, ho1, hb1⟩
      dsimp only
      have HZ2 := Lib.hid (below_then HZ.out HZ.out.size hb1)
      clear ho1 hb1
      generalize w1 = wy at *
      go_wp2_with fail
    all_goals
      refine (HG.out wy (HI.out.2.1.below HZ2.out)).mono ?_
      rintro e w3 ⟨v3, rfl, ho3, hb3⟩
      dsimp only at ho3 ⊢
      rw [HMM.out] at ho3
      obtain ⟨A3, d3, rfl, hin3, _, _, _⟩ := OwnL.listIn chg_len ho3
      have H3 := Lib.hid (And.intro hin3 (below_then HZ2.out HZ2.out.size hb3))
      clear ho3 hb3 hin3
      by_cases h3 : e3 = 0
      case' pos =>
        subst h3
        by_cases hx : 251 < X
        case' pos =>
          have hxI : decide ((251 : Int) < (X : Int)) = true := decide_eq_true (by omega)
          have hxI2 : (251 : Int) < (X : Int) := by omega
          go_wp2_with (go_at_call 12; refine (works11_any _).mono ?_; rintro e6 w6 ⟨rfl, hb6⟩; have H6 := Lib.hid (below_then H3.out.2 H3.out.2.size hb6); clear hb6)
          go_ret
          exact ⟨rfl, H6.out⟩
        case' neg =>
          obtain ⟨hok, hbb⟩ := getRecS_inv HR.out.2.2
          obtain ⟨pg3, hpg3⟩ := recPut_256 hok (by rw [hbb, HI.out.2.2.2]; omega)
          obtain ⟨_, hget, hp1, hp2, _⟩ := recPut_said hpg3
          rw [hbb] at hget
          obtain ⟨P, hP⟩ : ∃ P, pg3.length = P := ⟨_, rfl⟩
          rw [hP] at hp1 hp2
          have HM := Lib.hid (And.intro hP (And.intro hget hpg3))
          have hxI : decide ((251 : Int) < (X : Int)) = false := decide_eq_false (by omega)
          clear hok hbb hpg3 hget hP
          go_wp2_with fail
          refine (recPut_any w3 256 A3 M d3 m H3.out.1 (by unfold maxLen; omega)).mono ?_
          rw [HM.out.2.2]
          rintro e w4 ⟨v4, rfl, ho4, hb4⟩
          obtain ⟨A4, d4, rfl, hrv4, hl4, hm4, _⟩ := ho4.slice
          dsimp only at hrv4 hl4 ⊢
          rw [HM.out.1] at hl4 ⊢
          have H4 := Lib.hid (And.intro hrv4 (below_then H3.out.2 H3.out.2.size hb4))
          clear ho4 hrv4 hb4
          go_wp2_with fail
          refine (getPage_n w4 A4 P d4 pg3 HM.out.1 H4.out.1 hl4 hm4).mono ?_
          rw [HM.out.2.1]
          rintro e w5 ⟨v5, rfl, ho5, hb5⟩
          obtain ⟨A5, d5, rfl, hrv5, hl5, hm5, _⟩ := ho5.slice
          dsimp only at hrv5 hl5 ⊢
          have hb5' := below_then H4.out.2 H4.out.2.size hb5
          have HS := Lib.hid (same_any A5 B d5 dB xs xs w5 hrv5 (HI.out.2.1.below hb5') (Nat.le_trans hl5 hm5) (Nat.le_trans hl5 hm5))
          rw [HI.out.2.2.2] at HS ⊢
          rw [decide_eq_true rfl] at HS
          have H5 := Lib.hid hb5'
          clear ho5 hrv5 hb5 hb5' hl5
          go_wp2_with fail
          refine HS.out.mono ?_
          rintro e w6 ⟨rfl, hd6⟩
          have H6 := Lib.hid (below_then H5.out H5.out.size (hd6.below _))
          clear hd6
          go_wp2_with (go_at_call 12; refine (works11_any _).mono ?_; rintro e7 w7 ⟨rfl, hb7⟩; have H7 := Lib.hid (below_then H6.out H6.out.size hb7); clear hb7)
          go_ret
          exact ⟨rfl, H7.out⟩
      case' neg =>
        have hne3 : ((e3 : Int) != 0) = true := by simp; omega
        clear h3
        go_wp2_with (go_at_call 12; refine (works11_any _).mono ?_; rintro e6 w6 ⟨rfl, hb6⟩; have H6 := Lib.hid (below_then H3.out.2 H3.out.2.size hb6); clear hb6)
        go_ret
        exact ⟨rfl, H6.out⟩
end Go.Proofs.Ytdagdjaefgadfaa
