import Derived.Test.YtdagdjaefgadfaaWorks11M
import Derived.Test.YtdagdjaefgadfaaRecGsM
import Derived.Test.YtdagdjaefgadfaaMCp
import Derived.Test.YtdagdjaefgadfaaMSame
import Derived.Test.YtdagdjaefgadfaaWideM
import Derived.Test.YtdagdjaefgadfaaLeftM
set_option linter.unusedVariables false
set_option linter.unusedSimpArgs false
/- Layer 11: RecFresh. -/
namespace Go.Proofs.Ytdagdjaefgadfaa
open Go.RowKit

theorem wide_n (w : World) (A : Option Addr) (n c : Nat) (xs : List UInt8) (hn : xs.length = n) (hr : RV w A (bv xs)) (hx : n ≤ 140737488355328) :
    Calls Try.prog 17 #[.slice A n c] w fun e w' => ∃ g, e = .returned (.slice (some ⟨g, 0, none⟩) n (n + 3)) ∧ w.heap.size ≤ g ∧ RowB 5 w' g (xs ++ [7, 7, 7]) ∧ Below w.heap.size w w' := by
  subst hn
  exact wide_any w A c xs hr hx
theorem left_n (w : World) (g : Nat) (B : Option Addr) (n m d : Nat) (xs : List UInt8) (hn : xs.length = n) (hm : n + 3 = m) (hr : RowB 5 w g (xs ++ [7, 7, 7])) (hb : RV w B (bv xs)) (hx : n ≤ 140737488355328) :
    Calls Try.prog 18 #[.slice (some ⟨g, 0, none⟩) n m, .slice B n d] w fun e w' => e = .returned (.bool true) ∧ Drawn w w' := by
  subst hn
  subst hm
  exact left_yes w g B d xs hr hb hx
theorem recGet_sp_n (w : World) (A : Option Addr) (n c : Nat) (xs : List UInt8) (hn : xs.length = n) (hr : RV w A (bv xs)) (hx : n ≤ 140737488355328) :
    Calls Try.prog 9 #[.slice A n c] w (RecGetSp w (getRecS xs)) := by
  subst hn
  exact recGet_sp w A c xs hr hx

set_option maxRecDepth 100000 in
set_option maxHeartbeats 4000000 in
theorem walkRecFresh (w : World) (s : Int) (ws : (Lit.int .i64 s).wf = true) (A : Option Addr) (d : Nat) (l : List Chg) (hin : ChgsIn w A l.length l) (hvl : ∀ f ∈ l, f.val.length ≤ 140737488351232) (hn : l.length * 72 ≤ 140737488351232)
    (B : Option Addr) (dB : Nat) (xs : List UInt8) (hr : RV w B (bv xs)) (hR : xs.length ≤ 140737488351232) :
    Calls Try.prog 5 #[.int .i64 s, .slice A l.length d, .slice B xs.length dB] w fun e w' => e = .returned (.bool true) ∧ Below w.heap.size w w' := by
  clear ws
  obtain ⟨n, hN⟩ : ∃ n, l.length = n := ⟨_, rfl⟩
  obtain ⟨m, hM⟩ : ∃ m, xs.length = m := ⟨_, rfl⟩
  rw [hN] at hin hn ⊢
  rw [hM] at hR ⊢
  have HC := Lib.hid (dCopyC_any w A n d l hin hvl hn)
  have H := Lib.hid (And.intro hin (And.intro hr hM))
  clear hin hvl hr hN hM
  obtain ⟨r1, hr1⟩ : ∃ r, recPutS s l = r := ⟨_, rfl⟩
  obtain ⟨r2, hr2⟩ : ∃ r, getRecS xs = r := ⟨_, rfl⟩
  have HP := Lib.hid (fun (w' : World) (X : Option Addr) (c : Nat) (h : ChgsIn w' X n l) => recPut_any w' s X n c l h (by unfold maxLen; omega))
  rw [hr1] at HP
  have HG := Lib.hid (fun (w' : World) (X : Option Addr) (h : RV w' X (bv xs)) => recGet_sp_n w' X m (m + 3) xs H.out.2.2 h (by omega))
  rw [hr2] at HG
  clear hr1 hr2
  obtain ⟨pb, e1⟩ := r1
  obtain ⟨ms, e2⟩ := r2
  go_enter Try.func5, Try.ntmps5
  go_wp2_with fail
  refine HC.out.mono ?_
  rintro e w1 ⟨v1, rfl, ho1, hb1⟩
  obtain ⟨A1, c1, rfl, hin1, hl1, hm1, _⟩ := OwnL.listIn chg_len ho1
  have H1 := Lib.hid (And.intro hin1 hb1)
  clear ho1 hin1 hb1
  go_wp2_with fail
  refine (HP.out w1 A1 c1 H1.out.1).mono ?_
  rintro e w2 ⟨v2, rfl, ho2, hb2⟩
  have H2 := Lib.hid (And.intro ho2 (And.intro (ListIn.below chg_len (by decide) H1.out.1 hb2) (below_then H1.out.2 H1.out.2.size hb2)))
  have hs12 := hb2.size
  have hw1 := H1.out.2.size
  have HB2 := Lib.hid hb2
  clear ho2 hb2
  dsimp only
  go_wp2_with fail
  refine (spoil_own w2 w1.heap.size v2 pb 1 1 rfl H2.out.1).mono ?_
  rintro e w3 ⟨rfl, hg3⟩
  have hk3 : ∀ k, v2.ownBlock = some k → w1.heap.size ≤ k := fun k hk => (H2.out.1.blk hk).1
  have hb13 : Below w1.heap.size w1 w3 := HB2.out.grown hg3 hs12 hk3
  have H3 := Lib.hid (And.intro (ListIn.below chg_len (by decide) H1.out.1 hb13) (below_then H1.out.2 hw1 hb13))
  clear hg3 hk3 hb13
  go_wp2_with fail
  refine (wide_n w3 B m dB xs H.out.2.2 (H.out.2.1.below H3.out.2) (by omega)).mono ?_
  rintro e w4 ⟨g, rfl, hg, hrow4, hb4⟩
  have hs34 := hb4.size
  have hrv4 : RV w4 (some ⟨g, 0, none⟩) (bv xs) := by
    have h := hrow4.rv.take m
    rwa [← bv_take, ← H.out.2.2, List.take_left] at h
  have hlt4 := hrow4.lt
  have hmm : m ≤ m + 3 := by omega
  have H4 := Lib.hid (And.intro hrow4 (And.intro hrv4 (And.intro (ListIn.below chg_len (by decide) H3.out.1 hb4) (below_then H3.out.2 H3.out.2.size hb4))))
  clear hrow4 hrv4 hb4
  go_wp2_with fail
  refine (HG.out w4 (some ⟨g, 0, none⟩) H4.out.2.1).mono ?_
  rintro e w5 ⟨A5, c5, ps, rfl, hl5, hm5, hsp5, hb5⟩
  dsimp only at hl5 hsp5 ⊢
  obtain ⟨q, hq⟩ : ∃ q, ms.length = q := ⟨_, rfl⟩
  rw [hq] at hl5 hsp5 ⊢
  have hs45 := hb5.size
  have hw4 := H4.out.2.2.2.size
  have H5 := Lib.hid (And.intro hsp5 (And.intro (H4.out.1.below hb5 hlt4) (And.intro (ListIn.below chg_len (by decide) H4.out.2.2.1 hb5) (below_then H4.out.2.2.2 hw4 hb5))))
  have HB5 := Lib.hid hb5
  have hqq : q ≤ 9223372036854775807 := Nat.le_trans hl5 (Nat.le_trans hm5 (by decide))
  clear hsp5 hb5 hq
  go_wp2_with fail
  go_loopg [13] q (fun k i wr => ∃ j : Nat, j + k = q ∧ i = .int .i64 j ∧ SpRow chgCells 6 wr w4.heap.size A5 q ps ∧ Below w4.heap.size w4 wr)
  case atStart => exact ⟨0, by omega, rfl, H5.out.1, HB5.out⟩
  case round =>
    obtain ⟨j, hj, rfl, hsp, hb⟩ := hrel
    have HX := Lib.hid (And.intro hj (And.intro hsp hb))
    have hbz := hb.size
    clear hj hsp hb
    by_cases hlt : j < q
    · have hjq : (j : Int) < (q : Int) := by omega
      obtain ⟨p, hp⟩ : ∃ p, ps[j]? = some p := ⟨_, List.getElem?_eq_getElem (by have := HX.out.2.1.1; omega)⟩
      obtain ⟨ad, hA, hcell⟩ := HX.out.2.1.2.2 j p hp
      subst hA
      obtain ⟨hspv, hoff⟩ := HX.out.2.1.2.1 p (List.mem_of_getElem? hp)
      obtain ⟨⟨⟨xi, xa, xs', xc⟩, xv, xg⟩, pv⟩ := p
      dsimp only at hspv hoff hcell
      have x4 := hcell 4 pv rfl
      have hadd : (ad.add (j * 6)).add 4 = ⟨(ad.add (j * 6)).block, (ad.add (j * 6)).off + 4, none⟩ := by
        have hp := HX.out.2.1
        rfl
      rw [hadd] at x4
      obtain ⟨ys, hown⟩ := hspv
      obtain ⟨Ap, dp, rfl, _, _, _, _⟩ := hown.slice
      have HS := Lib.hid (And.intro (show SpV wr w4.heap.size (.slice Ap ys.length dp) from ⟨ys, hown⟩) hoff)
      clear hcell hoff hown hp hadd
      obtain ⟨L, hL⟩ : ∃ L, ys.length = L := ⟨_, rfl⟩
      rw [hL] at HS x4
      clear hL
      go_wp2_with fail
      refine (spoil_spv wr w4.heap.size (.slice Ap L dp) 1 1 rfl HS.out.1).mono ?_
      rintro e w6 ⟨rfl, hg6, hs6⟩
      have hsp6 := HX.out.2.1.spoilt (fun g hg => (HS.out.2 g hg).2) hg6 hs6
      have hb6 := HX.out.2.2.grown hg6 hbz (fun k hk => (HS.out.2 k hk).1)
      have H6 := Lib.hid (And.intro hsp6 hb6)
      clear hsp6 hb6 hg6 hs6 x4
      go_wp2_with fail
      go_roundg (q - (j + 1))
      case measure => have := HX.out.1; omega
      case rel => exact ⟨j + 1, by have := HX.out.1; omega, by go_num, H6.out.1, H6.out.2⟩
    · obtain rfl : j = q := by have := HX.out.1; omega
      have hge : ¬ (j : Int) < (j : Int) := by omega
      have hin6 := ListIn.below chg_len (by decide) H4.out.2.2.1 HX.out.2.2
      have hbw6 := below_then H4.out.2.2.2 hw4 HX.out.2.2
      have H6 := Lib.hid (And.intro hin6 (And.intro (H4.out.1.below HX.out.2.2 hlt4) hbw6))
      clear hin6 hbw6
      go_wp2_with fail
      refine (dChgs_eq wr A1 n c1 l H6.out.1 A d (ListIn.below chg_len (by decide) H.out.1 H6.out.2.2) (by omega)).mono ?_
      rintro e w7 ⟨rfl, hd7⟩
      have hb7 := hd7.below wr.heap.size
      have H7 := Lib.hid (And.intro (H6.out.2.1.belowAll hb7) (below_then H6.out.2.2 H6.out.2.2.size hb7))
      clear hd7 hb7
      go_wp2_with fail
      refine (left_n w7 g B m (m + 3) dB xs H.out.2.2 rfl H7.out.1 (H.out.2.1.below H7.out.2) (by omega)).mono ?_
      rintro e w8 ⟨rfl, hd8⟩
      have H8 := Lib.hid (below_then H7.out.2 H7.out.2.size (hd8.below _))
      clear hd8
      go_wp2_with fail
      refine (works11_any _).mono ?_
      rintro e w9 ⟨rfl, hb9⟩
      have H9 := Lib.hid (below_then H8.out H8.out.size hb9)
      clear hb9
      go_wp2_with fail
      go_ret
      exact ⟨rfl, H9.out⟩
end Go.Proofs.Ytdagdjaefgadfaa
