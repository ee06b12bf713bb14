import Derived.Test.YtckpgbkabbddnaaMPages
import Derived.Test.YtckpgbkabbddnaaPagesSpM
import Derived.Test.YtckpgbkabbddnaaMDParts
import Derived.Test.YtckpgbkabbddnaaCopyFM
import Derived.Test.YtckpgbkabbddnaaMSame
set_option linter.unusedVariables false
set_option linter.unusedSimpArgs false
/- The walk of PackFresh (layer 13). -/
namespace Go.Proofs.Ytckpgbkabbddnaa
open Go.RowKit

theorem same_eq (A B : Option Addr) (c d n : Nat) (xs : List UInt8) (hn : xs.length = n) (w : World) (ha : RV w A (bv xs)) (hb : RV w B (bv xs)) (lx : n ≤ maxLen) :
    Calls Try.prog 19 #[.slice A n c, .slice B n d] w fun e w' => e = .returned (.bool true) ∧ Drawn w w' := by
  subst hn
  have := same_any A B c d xs xs w ha hb lx lx
  rw [decide_eq_true rfl] at this
  exact this

set_option maxRecDepth 100000 in
set_option maxHeartbeats 4000000 in
theorem walkPackFresh (w : World) (s : Int) (hs : (Lit.int .i64 s).wf = true) (A : Option Addr) (d : Nat) (l : List Fct) (h : FctsIn w A l.length l) (hv : ∀ f ∈ l, f.val.length ≤ 140737488351232) (hn : l.length * 64 ≤ 140737488351232) :
    Calls Try.prog 7 #[.int .i64 s, .slice A l.length d] w fun e w' => e = .returned (.bool true) ∧ Below w.heap.size w w' := by
  clear hs
  obtain ⟨n, hN⟩ : ∃ n, l.length = n := ⟨_, rfl⟩
  rw [hN] at h hn ⊢
  have HC := Lib.hid (dCopyF_any w A n d l h hv hn)
  have H := Lib.hid h
  have HP1 := fun (w1 : World) (A1 : Option Addr) (c1 : Nat) (h1 : FctsIn w1 A1 n l) => pages_sp w1 s A1 n c1 l h1 hv hn
  have HP2 := fun (w1 : World) (A1 : Option Addr) (c1 : Nat) (h1 : FctsIn w1 A1 n l) => pages_any w1 s A1 n c1 l h1 hv hn
  have HP3 := fun (w1 : World) (A1 : Option Addr) (c1 : Nat) (h1 : FctsIn w1 A1 n l) => dPages_any w1 s A1 n c1 l h1 hv hn
  have hcode := cutsS_code s l
  have hpc : (pagesS s l).2 ≤ 3 ∧ (pagesS s l).1.length ≤ n := by
    unfold pagesS
    split
    · exact ⟨hcode, Nat.zero_le _⟩
    · rename_i h0
      have h0 := Classical.not_not.1 h0
      have := cutsS_len h0
      refine ⟨by simp, ?_⟩
      simp only [List.length_map]
      unfold partsS
      rw [partsC_len]
      omega
  have HV := Lib.hid hv
  clear h hv hcode
  generalize pagesS s l = r at *
  obtain ⟨pgs, e⟩ := r
  dsimp only at *
  obtain ⟨M, hM⟩ : ∃ M, pgs.length = M := ⟨_, rfl⟩
  rw [hM] at hpc
  obtain ⟨he3, hMn⟩ := hpc
  have HM := Lib.hid hM
  have HP1 := Lib.hid HP1
  have HP2 := Lib.hid HP2
  have HP3 := Lib.hid HP3
  clear hM hN
  go_enter Try.func7, Try.ntmps7
  go_wp2_with fail
  refine HC.out.mono ?_
  rintro e1 w1 ⟨v1, rfl, ho1, hb1⟩
  obtain ⟨A1, c1, rfl, hin1, hl1, hm1, _⟩ := OwnL.listIn fct_len ho1
  have H1 := Lib.hid (And.intro hin1 hb1)
  clear ho1 hin1 hb1
  go_wp2_with fail
  refine (HP1.out w1 A1 c1 H1.out.1).mono ?_
  rintro e2 w2 ⟨A2, c2, qs, rfl, hl2, hm2, hsp2, hb2⟩
  dsimp only at hl2 hsp2 ⊢
  rw [HM.out] at hl2 hsp2 ⊢
  have H2 := Lib.hid (And.intro hsp2 hb2)
  have hbz2 := hb2.size
  clear hsp2 hb2
  go_wp2_with fail
  go_loopg [8] M (fun k i wr => ∃ j : Nat, j + k = M ∧ i = .int .i64 j ∧ SpRow pgCells 1 wr w1.heap.size A2 M qs ∧ Below w1.heap.size w1 wr)
  case atStart => exact ⟨0, by omega, rfl, H2.out.1, H2.out.2⟩
  case round =>
    obtain ⟨j, hj, rfl, hsp, hb⟩ := hrel
    have HX := Lib.hid (And.intro hj (And.intro hsp hb))
    have hbz := hb.size
    clear hj hsp hb
    by_cases hlt : j < M
    · have hjq : (j : Int) < (M : Int) := by omega
      obtain ⟨p, hp⟩ : ∃ p, qs[j]? = some p := ⟨_, List.getElem?_eq_getElem (by have := HX.out.2.1.1; omega)⟩
      obtain ⟨ad, hA, hcell⟩ := HX.out.2.1.2.2 j p hp
      subst hA
      obtain ⟨hspv, hoff⟩ := HX.out.2.1.2.1 p (List.mem_of_getElem? hp)
      obtain ⟨px, pv⟩ := p
      dsimp only at hspv hoff hcell
      have x0 := hcell 0 pv rfl
      rw [add_zero, Nat.mul_one] at x0
      obtain ⟨ys, hown⟩ := hspv
      obtain ⟨Ap, dp, rfl, _, _, _, _⟩ := hown.slice
      have HS := Lib.hid (And.intro (show SpV wr w1.heap.size (.slice Ap ys.length dp) from ⟨ys, hown⟩) hoff)
      clear hcell hoff hown hp
      obtain ⟨L, hL⟩ : ∃ L, ys.length = L := ⟨_, rfl⟩
      rw [hL] at HS x0
      clear hL
      go_wp2_with fail
      refine (spoil_spv wr w1.heap.size (.slice Ap L dp) 1 1 rfl HS.out.1).mono ?_
      rintro e w6 ⟨rfl, hg6, hs6⟩
      have hsp6 := HX.out.2.1.spoilt (fun g hg => (HS.out.2 g hg).2) hg6 hs6
      have hb6 := HX.out.2.2.grown hg6 hbz (fun k hk => (HS.out.2 k hk).1)
      have H6 := Lib.hid (And.intro hsp6 hb6)
      clear hsp6 hb6 hg6 hs6 x0
      go_wp2_with fail
      go_roundg (M - (j + 1))
      case measure => have := HX.out.1; omega
      case rel => exact ⟨j + 1, by have := HX.out.1; omega, by go_num, H6.out.1, H6.out.2⟩
    · obtain rfl : j = M := by have := HX.out.1; omega
      have hge : ¬ (j : Int) < (j : Int) := by omega
      obtain ⟨W3, hW3⟩ : ∃ W3, W3 = wr := ⟨_, rfl⟩
      subst hW3
      have hin3 := ListIn.below fct_len (by decide) H1.out.1 HX.out.2.2
      have hbw3 := below_then H1.out.2 H1.out.2.size HX.out.2.2
      have H3 := Lib.hid (And.intro hin3 hbw3)
      clear hin3 hbw3 HX
      go_wp2_with fail
      refine (HP2.out W3 A1 c1 H3.out.1).mono ?_
      rintro e4 w4 ⟨v4, rfl, ho4, hb4⟩
      dsimp only at ho4 ⊢
      rw [HM.out] at ho4
      obtain ⟨A4, c4, rfl, hin4, hl4, hm4, _⟩ := OwnL.listIn pg_len ho4
      have H4 := Lib.hid (And.intro hin4 (And.intro (ListIn.below fct_len (by decide) H3.out.1 hb4) (below_then H3.out.2 H3.out.2.size hb4)))
      clear ho4 hin4 hb4
      go_wp2_with fail
      refine (HP3.out w4 A d (ListIn.below fct_len (by decide) H.out H4.out.2.2)).mono ?_
      rintro e5 w5 ⟨v5, rfl, ho5, hb5⟩
      dsimp only at ho5 ⊢
      rw [HM.out] at ho5
      obtain ⟨A5, c5, rfl, hin5, hl5, hm5, _⟩ := OwnL.listIn pg_len ho5
      have H5 := Lib.hid (And.intro (ListIn.below pg_len (by decide) H4.out.1 hb5) (And.intro hin5 (And.intro (ListIn.below fct_len (by decide) H4.out.2.1 hb5) (below_then H4.out.2.2 H4.out.2.2.size hb5))))
      clear ho5 hin5 hb5 H4
      have t1 : ((j : Int) != (j : Int)) = false := by simp
      have t2 : ((e : Int) != (e : Int)) = false := by simp
      go_wp2_with fail
      go_loopg [13] j (fun k i wr => ∃ m : Nat, m + k = j ∧ i = .int .i64 m ∧ Below w5.heap.size w5 wr)
      case atStart => exact ⟨0, by omega, rfl, Below.refl _ _⟩
      case round =>
        obtain ⟨m, hm, rfl, hb⟩ := hrel
        have HX := Lib.hid (And.intro hm (And.intro hb (below_then H5.out.2.2.2 H5.out.2.2.2.size hb)))
        clear hm hb
        by_cases hlt2 : m < j
        · obtain ⟨pg, hp⟩ : ∃ pg, pgs[m]? = some pg := ⟨_, List.getElem?_eq_getElem (by have := HM.out; omega)⟩
          obtain ⟨ad1, B1, d1, hA1, hrv1, hy1, hz1, hblk1, hc1⟩ := PgsIn.at_ H5.out.1 hp
          obtain ⟨ad2, B2, d2, hA2, hrv2, hy2, hz2, hblk2, hc2⟩ := PgsIn.at_ H5.out.2.1 hp
          subst hA1 hA2
          have y1 : wr.cell? (ad1.add m) = some (.slice B1 pg.length d1) := (World.cell?_of_block (HX.out.2.1.block _ hblk1)).trans hc1
          have y2 : wr.cell? (ad2.add m) = some (.slice B2 pg.length d2) := (World.cell?_of_block (HX.out.2.1.block _ hblk2)).trans hc2
          obtain ⟨N, hN⟩ : ∃ N, pg.length = N := ⟨_, rfl⟩
          rw [hN] at y1 y2 hy2
          have HC := Lib.hid (fun w' (hd : Drawn wr w') => same_eq B1 B2 d1 d2 N pg hN w' ((hrv1.below HX.out.2.1).below (hd.below _)) ((hrv2.below HX.out.2.1).below (hd.below _)) (Nat.le_trans hy2 hz2))
          have hjM : (m : Int) < (j : Int) := by omega
          clear hrv1 hrv2 hblk1 hblk2 hc1 hc2 hp hN
          go_wp2_with fail
          go_quiet ((go_at_call 19; first | exact quiet_drawn (HC.out _ (Drawn.mk wr _)) | exact quiet_drawn2 (HC.out _ (Drawn.mk wr _))))
          have hbd := below_drewN HX.out.2.1 nq
          generalize wr.drewN nq = w3 at *
          have HD := Lib.hid hbd
          clear hbd
          go_wp2_with fail
          go_roundg (j - (m + 1))
          case measure => have := HX.out.1; omega
          case rel => exact ⟨m + 1, by have := HX.out.1; omega, by go_num, HD.out⟩
        · have hge : ¬ (m : Int) < (j : Int) := by omega
          have HF := dFacts_any wr A1 n c1 l (ListIn.below fct_len (by decide) H5.out.2.2.1 HX.out.2.1) A n d l (ListIn.below fct_len (by decide) H.out HX.out.2.2) hn
          rw [decide_eq_true rfl] at HF
          have HF := Lib.hid HF
          go_wp2_with (first
            | (go_at_call 13; refine HF.out.mono ?_; rintro e6 w6 ⟨rfl, hd6⟩; have H6 := Lib.hid (below_then HX.out.2.2 HX.out.2.2.size (hd6.below _)); clear hd6)
            | (go_at_call 9; refine (works13_any _).mono ?_; rintro e7 w7 ⟨rfl, hb7⟩; have H7 := Lib.hid (below_then H6.out H6.out.size hb7); clear hb7))
          go_ret
          exact ⟨rfl, H7.out⟩
end Go.Proofs.Ytckpgbkabbddnaa
