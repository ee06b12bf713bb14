import Derived.Test.YtegoeagmadhpgaaWorks15M
import Derived.Test.YtegoeagmadhpgaaInnKM
import Derived.Test.YtegoeagmadhpgaaInnPM
import Derived.Test.YtegoeagmadhpgaaChdEM
set_option linter.unusedVariables false
set_option linter.unusedSimpArgs false
/- Layer 15: LeafBack. -/
namespace Go.Proofs.Ytegoeagmadhpgaa
open Go.RowKit

set_option maxRecDepth 100000 in
set_option maxHeartbeats 4000000 in
theorem walkLeafBack (w : World) (s : Int) (ws : (Lit.int .i64 s).wf = true) (A : Option Addr) (d : Nat) (l : List Fct) (hin : FctsIn w A l.length l) (hvl : ∀ f ∈ l, f.val.length ≤ 140737488351232) (hn : l.length * 64 ≤ 140737488351232)
    (B : Option Addr) (dB : Nat) (cs : List Chd) (hic : ChdsIn w B cs.length cs) (hnc : cs.length * 56 ≤ 140737488351232) :
    Calls Try.prog 6 #[.int .i64 s, .slice A l.length d, .slice B cs.length dB] w fun e w' => e = .returned (.bool true) ∧ Below w.heap.size w w' := by
  clear ws
  obtain ⟨n, hN⟩ : ∃ n, l.length = n := ⟨_, rfl⟩
  obtain ⟨m, hM⟩ : ∃ m, cs.length = m := ⟨_, rfl⟩
  rw [hN] at hin hn ⊢
  rw [hM] at hic hnc ⊢
  have HL := Lib.hid (fun w => lives15_any w)
  have HG := Lib.hid (putLeaf_any w s A n d l hin hvl (by omega))
  have HI := Lib.hid (fun w' (hb : Below w.heap.size w w') => putInner_any w' s B m dB cs (ListIn.below chd_len (by decide) hic hb) (by omega))
  have H := Lib.hid (And.intro hin (And.intro hic (And.intro hN hM)))
  clear hin hic hvl hN hM
  obtain ⟨r1, hr1⟩ : ∃ r, putLeafS s l = r := ⟨_, rfl⟩
  obtain ⟨r2, hr2⟩ : ∃ r, putInnerS s cs = r := ⟨_, rfl⟩
  have hc1 := putLeafS_code' s l
  have hc2 := putInnerS_code s cs
  rw [hr1] at HG hc1
  rw [hr2] at HI hc2
  obtain ⟨pb, e1⟩ := r1
  obtain ⟨qb, e2⟩ := r2
  have H1R := Lib.hid hr1
  have H2R := Lib.hid hr2
  clear hr1 hr2
  dsimp only at hc1 hc2
  go_enter Try.func6, Try.ntmps6
  go_wp2_with fail
  refine HG.out.mono ?_
  rintro e w1 ⟨v1, rfl, ho1, hb1⟩
  obtain ⟨A1, d1, rfl, hrv1, hl1, hm1, _⟩ := ho1.slice
  dsimp only at hrv1 hl1 ⊢
  obtain ⟨K, hK⟩ : ∃ K, pb.length = K := ⟨_, rfl⟩
  rw [hK] at hl1 ⊢
  have H1 := Lib.hid (And.intro hrv1 (And.intro hb1 hK))
  clear ho1 hrv1 hb1 hK
  have hcase : (e1 ≠ 0) ∨ e1 = 0 := by omega
  rcases hcase with he | he
  case' inl =>
    have hne : ((e1 : Int) == 0) = false := by simp; omega
    have HB := Lib.hid H1.out.2.1
    generalize w1 = w4 at *
    clear he
    go_wp2_with fail
  case' inr =>
    subst he
    obtain ⟨hok, k2, k3, k4, k5⟩ := putLeaf_said H1R.out
    have hgl := getLeafS_put hok
    obtain ⟨q, hq⟩ : ∃ q, (leafB l).length = q := ⟨_, rfl⟩
    rw [hq] at k5
    have HP := Lib.hid (And.intro k2 (And.intro hgl hq))
    clear k2 hgl hok k3 k4 hq
    go_wp2_with fail
    refine (dGet_n w1 A1 K d1 pb H1.out.2.2 H1.out.1 hl1 hm1).mono ?_
    rw [HP.out.1]
    rintro e w2 ⟨v2, rfl, ho2, hb2⟩
    obtain ⟨A2, d2, rfl, hrv2, hl2, hm2, _⟩ := ho2.slice
    dsimp only at hrv2 hl2 ⊢
    rw [HP.out.2.2] at hl2 ⊢
    have H2 := Lib.hid (And.intro hrv2 (below_then H1.out.2.1 H1.out.2.1.size hb2))
    clear ho2 hrv2 hb2
    go_wp2_with fail
    refine (getLeaf_any w2 A2 q d2 (leafB l) HP.out.2.2 H2.out.1 (by omega)).mono ?_
    rw [HP.out.2.1]
    rintro e w3 ⟨v3, rfl, ⟨ps3, hps3, ho3⟩, hb3⟩
    obtain ⟨A3, c3, rfl, hin3, hl3, hm3⟩ := OwnG.listIn ho3
    dsimp only at hps3 hin3 hl3 ⊢
    rw [hps3] at hin3
    rw [H.out.2.2.1] at hin3 hl3 ⊢
    have hb03 := below_then H2.out.2 H2.out.2.size hb3
    have H3 := Lib.hid (And.intro hin3 (And.intro hb03 (ListIn.below fct_len (by decide) H.out.1 hb03)))
    clear ho3 hps3 hb3 hin3 hb03
    go_wp2_with fail
    refine (dFacts_any w3 A3 n c3 l H3.out.1 A n d l H3.out.2.2 hn).mono ?_
    rintro e w4 ⟨rfl, hd4⟩
    rw [decide_eq_true rfl]
    have HB := Lib.hid (below_then H3.out.2.1 H3.out.2.1.size (hd4.below _))
    clear hd4
    go_wp2_with fail
  all_goals
    refine (HI.out w4 HB.out).mono ?_
    rintro e w5 ⟨v5, rfl, ho5, hb5⟩
    obtain ⟨A5, d5, rfl, hrv5, hl5, hm5, _⟩ := ho5.slice
    dsimp only at hrv5 hl5 ⊢
    obtain ⟨K5, hK5⟩ : ∃ K, qb.length = K := ⟨_, rfl⟩
    rw [hK5] at hl5 ⊢
    have H5 := Lib.hid (And.intro hrv5 (And.intro (below_then HB.out HB.out.size hb5) hK5))
    clear ho5 hrv5 hb5 hK5
    have hcase : (e2 ≠ 0) ∨ e2 = 0 := by omega
    rcases hcase with he | he
    · have hne : ((e2 : Int) != 0) = true := by simp; omega
      clear he
      go_wp2_with fail
      refine (HL.out _).mono ?_
      rintro e w9 ⟨rfl, hb9⟩
      have H9 := Lib.hid (below_then H5.out.2.1 H5.out.2.1.size hb9)
      clear hb9
      go_wp2_with fail
      go_ret
      exact ⟨rfl, H9.out⟩
    · subst he
      obtain ⟨hok, k2, k3, k4, k5⟩ := putInner_said H2R.out
      have hgl := getInnerS_put hok
      obtain ⟨q5, hq⟩ : ∃ q, (innB cs).length = q := ⟨_, rfl⟩
      rw [hq] at k5
      have HP := Lib.hid (And.intro k2 (And.intro hgl hq))
      clear k2 hgl hok k3 k4 hq
      go_wp2_with fail
      refine (dGet_n w5 A5 K5 d5 qb H5.out.2.2 H5.out.1 hl5 hm5).mono ?_
      rw [HP.out.1]
      rintro e w6 ⟨v6, rfl, ho6, hb6⟩
      obtain ⟨A6, d6, rfl, hrv6, hl6, hm6, _⟩ := ho6.slice
      dsimp only at hrv6 hl6 ⊢
      rw [HP.out.2.2] at hl6 ⊢
      have H6 := Lib.hid (And.intro hrv6 (below_then H5.out.2.1 H5.out.2.1.size hb6))
      clear ho6 hrv6 hb6
      go_wp2_with fail
      refine (getInner_any w6 A6 q5 d6 (innB cs) HP.out.2.2 H6.out.1 (by omega)).mono ?_
      rw [HP.out.2.1]
      rintro e w7 ⟨v7, rfl, ⟨ps7, hps7, ho7⟩, hb7⟩
      obtain ⟨A7, c7, rfl, hin7, hl7, hm7⟩ := OwnG.listIn ho7
      dsimp only at hps7 hin7 hl7 ⊢
      rw [hps7] at hin7
      rw [H.out.2.2.2] at hin7 hl7 ⊢
      have hb07 := below_then H6.out.2 H6.out.2.size hb7
      have H7 := Lib.hid (And.intro hin7 (And.intro hb07 (ListIn.below chd_len (by decide) H.out.2.1 hb07)))
      clear ho7 hps7 hb7 hin7 hb07
      go_wp2_with fail
      refine (chds_eq w7 A7 m c7 cs H7.out.1 B dB H7.out.2.2 hnc).mono ?_
      rintro e w8 ⟨rfl, hd8⟩
      have H8 := Lib.hid (below_then H7.out.2.1 H7.out.2.1.size (hd8.below _))
      clear hd8
      go_wp2_with fail
      refine (HL.out _).mono ?_
      rintro e w9 ⟨rfl, hb9⟩
      have H9 := Lib.hid (below_then H8.out H8.out.size hb9)
      clear hb9
      go_wp2_with fail
      go_ret
      exact ⟨rfl, H9.out⟩
end Go.Proofs.Ytegoeagmadhpgaa
