import Derived.Test.YtegoeagmadhpgaaWorks15M
import Derived.Test.YtegoeagmadhpgaaDLeafGM
import Derived.Test.YtegoeagmadhpgaaMSpR
import Derived.Test.YtegoeagmadhpgaaSameKM
set_option linter.unusedVariables false
set_option linter.unusedSimpArgs false
/- Layer 15: LeafFresh. -/
namespace Go.Proofs.Ytegoeagmadhpgaa
open Go.RowKit

theorem same_n (A B : Option Addr) (n m c d : Nat) (xs ys : List UInt8) (w : World) (hn : xs.length = n) (hm : ys.length = m) (ha : RV w A (bv xs)) (hb : RV w B (bv ys)) (lx : n ≤ maxLen) (ly : m ≤ maxLen) :
    Calls Try.prog 12 #[.slice A n c, .slice B m d] w fun e w' => e = .returned (.bool (decide (xs = ys))) ∧ Drawn w w' := by
  subst hn
  subst hm
  exact same_any A B c d xs ys w ha hb lx ly
theorem copy_nF (w : World) (A : Option Addr) (n c : Nat) (xs : List UInt8) (hn : xs.length = n) (hr : RV w A (bv xs)) (hx : n ≤ 140737488355328) :
    Calls Try.prog 8 #[.slice A n c] w (OwnEnd w xs) := by
  subst hn
  exact copy_any w A c xs hr hx
theorem lsS_lenF (xs : List UInt8) : (getLeafS xs).1.length ≤ 255 := by
  obtain ⟨r, hr⟩ : ∃ r, getLeafS xs = r := ⟨_, rfl⟩
  rw [hr]
  obtain ⟨l, e⟩ := r
  have hgo : ∀ (k : Nat) (p : Option Ky) (st : Option (List UInt8)), (lsGo fctS Fct.key k p st).1.length ≤ k := by
    intro k
    induction k with
    | zero => intro p st; exact Nat.le_refl _
    | succ k ih =>
      intro p st
      rw [lsGo]
      split
      · exact Nat.zero_le _
      · split
        · exact Nat.zero_le _
        · split
          · exact Nat.zero_le _
          · have := ih (some (fctS st).1.key) (fctS st).2.2
            simp only [List.length_cons]
            omega
  show l.length ≤ 255
  have hl : l = (getLeafS xs).1 := by rw [hr]
  rw [hl]
  unfold getLeafS lsS
  split
  · exact Nat.zero_le _
  · rename_i n r
    have := n.toNat_lt
    split
    · exact Nat.zero_le _
    · split
      · exact Nat.zero_le _
      · split
        · exact Nat.zero_le _
        · have := hgo n.toNat none (some r)
          show (lsGo fctS Fct.key n.toNat none (some r)).1.length ≤ 255
          omega

set_option maxRecDepth 100000 in
set_option maxHeartbeats 4000000 in
theorem walkLeafFresh (w : World) (A : Option Addr) (d : Nat) (xs : List UInt8) (hr : RV w A (bv xs)) (hR : xs.length ≤ 140737488351232) :
    Calls Try.prog 3 #[.slice A xs.length d] w fun e w' => e = .returned (.bool true) ∧ Below w.heap.size w w' := by
  obtain ⟨n, hn⟩ : ∃ n, xs.length = n := ⟨_, rfl⟩
  rw [hn] at hR ⊢
  have H := Lib.hid (And.intro hr hn)
  have HG := Lib.hid (fun (w' : World) (X : Option Addr) (c : Nat) (h : RV w' X (bv xs)) => getLeaf_any w' X n c xs hn h (by omega))
  have HD := Lib.hid (fun (w' : World) (X : Option Addr) (c : Nat) (h : RV w' X (bv xs)) (hl : n ≤ c) (hc : c ≤ maxLen) (hA : ∀ ad, X = some ad → ad.block < w'.heap.size) => dGetLeaf_any w' X n c xs hn h hl hc hA)
  have hlen := lsS_lenF xs
  clear hr hn
  obtain ⟨r, hr⟩ : ∃ r, getLeafS xs = r := ⟨_, rfl⟩
  rw [hr] at HG HD hlen
  clear hr
  obtain ⟨l, e1⟩ := r
  dsimp only at hlen
  obtain ⟨q, hq⟩ : ∃ q, l.length = q := ⟨_, rfl⟩
  rw [hq] at hlen
  have HQ := Lib.hid hq
  clear hq
  go_enter Try.func3, Try.ntmps3
  go_wp2_with fail
  refine (copy_nF w A n d xs H.out.2 H.out.1 (by omega)).mono ?_
  rintro e w1 ⟨v1, rfl, ho1, hb1⟩
  obtain ⟨A1, c1, rfl, hrv1, hl1, hm1, hA1⟩ := ho1.slice
  rw [H.out.2] at ho1 hl1 hA1 ⊢
  have hA1' : ∀ ad, A1 = some ad → ad.block < w1.heap.size := fun ad e => (ho1.blk (hA1 ad e).symm).2
  have hs1 := hb1.size
  have H1 := Lib.hid (And.intro hrv1 (And.intro hA1' hb1))
  clear ho1 hrv1 hA1' hA1 hb1
  go_wp2_with fail
  refine (HG.out w1 A d (H.out.1.below H1.out.2.2)).mono ?_
  rintro e w2 ⟨v2, rfl, ⟨ps, hps, ho2⟩, hb2⟩
  obtain ⟨A2, c2, rfl, _, hl2, hm2⟩ := OwnG.listIn ho2
  dsimp only at hps ho2 hl2 ⊢
  rw [HQ.out] at ho2 hl2 ⊢
  have hs2 := hb2.size
  have H2 := Lib.hid (And.intro (OwnG.sp ho2) hb2)
  clear hps ho2 hb2
  go_wp2_with fail
  go_loopg [6] q (fun k i wr => ∃ j : Nat, j + k = q ∧ i = .int .i64 j ∧ SpRow fctCells 5 wr w1.heap.size A2 q ps ∧ Below w1.heap.size w1 wr)
  case atStart => exact ⟨0, by omega, rfl, H2.out.1, H2.out.2⟩
  case round =>
    obtain ⟨j, hj, rfl, hsp, hb⟩ := hrel
    have HX := Lib.hid (And.intro hj (And.intro hsp hb))
    have hbz := hb.size
    clear hj hsp hb
    by_cases hlt : j < q
    · have hjq : (j : Int) < (q : Int) := by omega
      obtain ⟨p, hp⟩ : ∃ p, ps[j]? = some p := ⟨_, List.getElem?_eq_getElem (by have := HX.out.2.1.1; omega)⟩
      obtain ⟨ad, hA, hcell⟩ := HX.out.2.1.2.2 j p hp
      subst hA
      obtain ⟨hspv, hoff⟩ := HX.out.2.1.2.1 p (List.mem_of_getElem? hp)
      obtain ⟨⟨⟨xi, xa, xs', xc⟩, xv⟩, pv⟩ := p
      dsimp only at hspv hoff hcell
      have x4 := hcell 4 pv rfl
      have hadd : (ad.add (j * 5)).add 4 = ⟨(ad.add (j * 5)).block, (ad.add (j * 5)).off + 4, none⟩ := rfl
      rw [hadd] at x4
      obtain ⟨ys, hown⟩ := hspv
      obtain ⟨Ap, dp, rfl, _, _, _, _⟩ := hown.slice
      have HS := Lib.hid (And.intro (show SpV wr w1.heap.size (.slice Ap ys.length dp) from ⟨ys, hown⟩) hoff)
      clear hcell hoff hown hp hadd
      obtain ⟨L, hL⟩ : ∃ L, ys.length = L := ⟨_, rfl⟩
      rw [hL] at HS x4
      clear hL
      go_wp2_with fail
      refine (spoil_spv wr w1.heap.size (.slice Ap L dp) 3 3 rfl HS.out.1).mono ?_
      rintro e w6 ⟨rfl, hg6, hs6⟩
      have hsp6 := HX.out.2.1.spoilt (fun g hg => (HS.out.2 g hg).2) hg6 hs6
      have hb6 := HX.out.2.2.grown hg6 hbz (fun k hk => (HS.out.2 k hk).1)
      have H6 := Lib.hid (And.intro hsp6 hb6)
      clear hsp6 hb6 hg6 hs6 x4
      go_wp2_with fail
      go_roundg (q - (j + 1))
      case measure => have := HX.out.1; omega
      case rel => exact ⟨j + 1, by have := HX.out.1; omega, by go_num, H6.out.1, H6.out.2⟩
    · obtain rfl : j = q := by have := HX.out.1; omega
      have hge : ¬ (j : Int) < (j : Int) := by omega
      have hbw := below_then H1.out.2.2 hs1 HX.out.2.2
      have H3 := Lib.hid (And.intro (H1.out.1.below HX.out.2.2) hbw)
      clear hbw
      go_wp2_with fail
      refine (HG.out wr A1 c1 H3.out.1).mono ?_
      rintro e w4 ⟨v4, rfl, ⟨ps4, hps4, ho4⟩, hb4⟩
      obtain ⟨A4, c4, rfl, hin4, hl4, hm4⟩ := OwnG.listIn ho4
      rw [hps4] at hin4
      dsimp only at hin4 hl4 ⊢
      rw [HQ.out] at hin4 hl4 ⊢
      have hs4 := hb4.size
      have H4 := Lib.hid (And.intro hin4 (And.intro (H3.out.1.below hb4) (below_then H3.out.2 H3.out.2.size hb4)))
      clear hps4 ho4 hb4 hin4
      go_wp2_with fail
      refine (HD.out w4 A1 c1 H4.out.2.1 hl1 hm1 (fun ad e => by have := H1.out.2.1 ad e; omega)).mono ?_
      rintro e w5 ⟨v5, rfl, ho5, hb5⟩
      obtain ⟨A5, c5, rfl, hin5, hl5, hm5, _⟩ := OwnL.listIn fct_len ho5
      dsimp only at hin5 hl5 ⊢
      rw [HQ.out] at hin5 hl5 ⊢
      have H5 := Lib.hid (And.intro (ListIn.below fct_len (by decide) H4.out.1 hb5) (And.intro hin5 (And.intro (H4.out.2.1.below hb5) (below_then H4.out.2.2 H4.out.2.2.size hb5))))
      clear ho5 hb5 hin5
      go_wp2_with fail
      refine (same_n A A1 n n d c1 xs xs w5 H.out.2 H.out.2 (H.out.1.below H5.out.2.2.2) H5.out.2.2.1 (by unfold maxLen; omega) (by unfold maxLen; omega)).mono ?_
      rintro e w6 ⟨rfl, hd6⟩
      rw [decide_eq_true rfl]
      have hb6 := hd6.below w5.heap.size
      have H6 := Lib.hid (And.intro (ListIn.below fct_len (by decide) H5.out.1 hb6) (And.intro (ListIn.below fct_len (by decide) H5.out.2.1 hb6) (below_then H5.out.2.2.2 H5.out.2.2.2.size hb6)))
      clear hd6 hb6
      go_wp2_with fail
      refine (dFacts_any w6 A4 j c4 l H6.out.1 A5 j c5 l H6.out.2.1 (by omega)).mono ?_
      rintro e w7 ⟨rfl, hd7⟩
      rw [decide_eq_true rfl]
      have H7 := Lib.hid (below_then H6.out.2.2 H6.out.2.2.size (hd7.below _))
      clear hd7
      go_wp2_with fail
      refine (lives15_any _).mono ?_
      rintro e w8 ⟨rfl, hb8⟩
      have H8 := Lib.hid (below_then H7.out H7.out.size hb8)
      clear hb8
      go_wp2_with fail
      go_ret
      exact ⟨rfl, H8.out⟩
end Go.Proofs.Ytegoeagmadhpgaa
