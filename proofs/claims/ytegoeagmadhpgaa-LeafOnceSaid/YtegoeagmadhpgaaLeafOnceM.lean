import Derived.Test.YtegoeagmadhpgaaWorks15M
import Derived.Test.YtegoeagmadhpgaaInnKM
import Derived.Test.YtegoeagmadhpgaaInnPM
import Derived.Test.YtegoeagmadhpgaaSameKM
set_option linter.unusedVariables false
set_option linter.unusedSimpArgs false
/- Layer 15: LeafOnce. -/
namespace Go.Proofs.Ytegoeagmadhpgaa
open Go.RowKit

theorem same_n (A B : Option Addr) (n m c d : Nat) (xs ys : List UInt8) (w : World) (hn : xs.length = n) (hm : ys.length = m) (ha : RV w A (bv xs)) (hb : RV w B (bv ys)) (lx : n ≤ maxLen) (ly : m ≤ maxLen) :
    Calls Try.prog 12 #[.slice A n c, .slice B m d] w fun e w' => e = .returned (.bool (decide (xs = ys))) ∧ Drawn w w' := by
  subst hn
  subst hm
  exact same_any A B c d xs ys w ha hb lx ly

set_option maxRecDepth 100000 in
set_option maxHeartbeats 4000000 in
theorem walkLeafOnce (w : World) (A : Option Addr) (d : Nat) (xs : List UInt8) (hr : RV w A (bv xs)) (hR : xs.length ≤ 140737488351232) :
    Calls Try.prog 7 #[.slice A xs.length d] w fun e w' => e = .returned (.bool true) ∧ Below w.heap.size w w' := by
  obtain ⟨n, hn⟩ : ∃ n, xs.length = n := ⟨_, rfl⟩
  rw [hn] at hR ⊢
  have HR := Lib.hid (And.intro hr hn)
  have HG := Lib.hid (getLeaf_any w A n d xs hn hr (by omega))
  have HI := Lib.hid (fun w' (hb : Below w.heap.size w w') => getInner_any w' A n d xs hn (hr.below hb) (by omega))
  clear hr hn
  have HL := Lib.hid (fun w => lives15_any w)
  obtain ⟨r1, hr1⟩ : ∃ r, getLeafS xs = r := ⟨_, rfl⟩
  obtain ⟨r2, hr2⟩ : ∃ r, getInnerS xs = r := ⟨_, rfl⟩
  rw [hr1] at HG
  rw [hr2] at HI
  obtain ⟨l, e1⟩ := r1
  obtain ⟨cs, e2⟩ := r2
  have H1R := Lib.hid hr1
  have H2R := Lib.hid hr2
  clear hr1 hr2
  go_enter Try.func7, Try.ntmps7
  go_wp2_with fail
  refine HG.out.mono ?_
  rintro e w1 ⟨v1, rfl, ⟨ps, hps, ho1⟩, hb1⟩
  obtain ⟨A1, c1, rfl, hin1, hl1, hm1⟩ := OwnG.listIn ho1
  dsimp only at hps hin1 hl1 ⊢
  rw [hps] at hin1
  obtain ⟨m, hm⟩ : ∃ m, l.length = m := ⟨_, rfl⟩
  rw [hm] at hin1 hl1 ⊢
  have H1 := Lib.hid (And.intro hb1 (And.intro hin1 hm))
  clear ho1 hps hb1 hin1 hm
  have hcase : (e1 ≠ 0) ∨ (e1 = 0 ∧ 251 < n) ∨ (e1 = 0 ∧ n ≤ 251) := by omega
  rcases hcase with he | ⟨he, hlen⟩ | ⟨he, hlen⟩
  case' inl =>
    have hne : ((e1 : Int) == 0) = false := by simp; omega
    have HB := Lib.hid H1.out.1
    generalize w1 = w4 at *
    clear he
    go_wp2_with fail
  case' inr.inl =>
    subst he
    have t1 : decide (n ≤ 251) = false := decide_eq_false (by omega)
    have t2 : decide ((n : Int) ≤ 251) = false := decide_eq_false (by omega)
    have HB := Lib.hid H1.out.1
    generalize w1 = w4 at *
    go_wp2_with fail
  case' inr.inr =>
    subst he
    have t1 : decide (n ≤ 251) = true := decide_eq_true (by omega)
    have t2 : decide ((n : Int) ≤ 251) = true := decide_eq_true (by omega)
    obtain ⟨hok, hlb⟩ := getLeafS_inv H1R.out
    obtain ⟨p, hp⟩ := putLeaf_256 hok (by rw [hlb, HR.out.2]; exact hlen)
    obtain ⟨_, k2, k3, k4, _⟩ := putLeaf_said hp
    rw [hlb] at k2
    obtain ⟨K, hK⟩ : ∃ K, p.length = K := ⟨_, rfl⟩
    rw [hK] at k3 k4
    have hPL := putLeaf_any w1 256 A1 m c1 l H1.out.2.1 (fun f hf => Nat.le_trans (hok.2.2.1 f hf).2.2 (by decide)) (by have := hok.2.1; have := H1.out.2.2; omega)
    rw [hp] at hPL
    have HP := Lib.hid (And.intro hPL (And.intro k2 hK))
    clear hPL k2 hK hp hok hlb
    go_wp2_with fail
    refine HP.out.1.mono ?_
    rintro e w2 ⟨v2, rfl, ho2, hb2⟩
    obtain ⟨A2, d2, rfl, hrv2, hl2, hm2, _⟩ := ho2.slice
    dsimp only at hrv2 hl2 ⊢
    rw [HP.out.2.2] at hl2 ⊢
    have H2 := Lib.hid (And.intro hrv2 (below_then H1.out.1 H1.out.1.size hb2))
    clear ho2 hrv2 hb2
    go_wp2_with fail
    refine (dGet_n w2 A2 K d2 p HP.out.2.2 H2.out.1 hl2 hm2).mono ?_
    rw [HP.out.2.1]
    rintro e w3 ⟨v3, rfl, ho3, hb3⟩
    obtain ⟨A3, d3, rfl, hrv3, hl3, hm3, _⟩ := ho3.slice
    dsimp only at hrv3 hl3 ⊢
    rw [HR.out.2] at hl3 ⊢
    have H3 := Lib.hid (And.intro hrv3 (below_then H2.out.2 H2.out.2.size hb3))
    clear ho3 hrv3 hb3
    go_wp2_with fail
    refine (same_n A3 A n n d3 d xs xs w3 HR.out.2 HR.out.2 H3.out.1 (HR.out.1.below H3.out.2) (by unfold maxLen; omega) (by unfold maxLen; omega)).mono ?_
    rintro e w4 ⟨rfl, hd4⟩
    rw [decide_eq_true rfl]
    have HB := Lib.hid (below_then H3.out.2 H3.out.2.size (hd4.below _))
    clear hd4
    go_wp2_with fail
  all_goals
    refine (HI.out w4 HB.out).mono ?_
    rintro e w5 ⟨v5, rfl, ⟨ps5, hps5, ho5⟩, hb5⟩
    obtain ⟨A5, c5, rfl, hin5, hl5, hm5⟩ := OwnG.listIn ho5
    dsimp only at hps5 hin5 hl5 ⊢
    rw [hps5] at hin5
    obtain ⟨m5, hm5'⟩ : ∃ m, cs.length = m := ⟨_, rfl⟩
    rw [hm5'] at hin5 hl5 ⊢
    have H5 := Lib.hid (And.intro (below_then HB.out HB.out.size hb5) (And.intro hin5 hm5'))
    clear ho5 hps5 hb5 hin5 hm5'
    have hcase : (e2 ≠ 0) ∨ (e2 = 0 ∧ 251 < n) ∨ (e2 = 0 ∧ n ≤ 251) := by omega
    rcases hcase with he | ⟨he, hlen⟩ | ⟨he, hlen⟩
    · have hne : ((e2 : Int) != 0) = true := by simp; omega
      clear he
      go_wp2_with fail
      refine (HL.out _).mono ?_
      rintro e w9 ⟨rfl, hb9⟩
      have H9 := Lib.hid (below_then H5.out.1 H5.out.1.size hb9)
      clear hb9
      go_wp2_with fail
      go_ret
      exact ⟨rfl, H9.out⟩
    · subst he
      have t3 : decide (251 < n) = true := decide_eq_true (by omega)
      have t4 : decide ((251 : Int) < (n : Int)) = true := decide_eq_true (by omega)
      go_wp2_with fail
      refine (HL.out _).mono ?_
      rintro e w9 ⟨rfl, hb9⟩
      have H9 := Lib.hid (below_then H5.out.1 H5.out.1.size hb9)
      clear hb9
      go_wp2_with fail
      go_ret
      exact ⟨rfl, H9.out⟩
    · subst he
      have t3 : decide (251 < n) = false := decide_eq_false (by omega)
      have t4 : decide ((251 : Int) < (n : Int)) = false := decide_eq_false (by omega)
      obtain ⟨hok, hlb⟩ := getInnerS_inv H2R.out
      obtain ⟨p, hp⟩ := putInner_256 hok (by rw [hlb, HR.out.2]; exact hlen)
      obtain ⟨_, k2, k3, k4, _⟩ := putInner_said hp
      rw [hlb] at k2
      obtain ⟨K, hK⟩ : ∃ K, p.length = K := ⟨_, rfl⟩
      rw [hK] at k3 k4
      have hPL := putInner_any w5 256 A5 m5 c5 cs H5.out.2.1 (by have := hok.2.1; have := H5.out.2.2; omega)
      rw [hp] at hPL
      have HP := Lib.hid (And.intro hPL (And.intro k2 hK))
      clear hPL k2 hK hp hok hlb
      go_wp2_with fail
      refine HP.out.1.mono ?_
      rintro e w6 ⟨v6, rfl, ho6, hb6⟩
      obtain ⟨A6, d6, rfl, hrv6, hl6, hm6, _⟩ := ho6.slice
      dsimp only at hrv6 hl6 ⊢
      rw [HP.out.2.2] at hl6 ⊢
      have H6 := Lib.hid (And.intro hrv6 (below_then H5.out.1 H5.out.1.size hb6))
      clear ho6 hrv6 hb6
      go_wp2_with fail
      refine (dGet_n w6 A6 K d6 p HP.out.2.2 H6.out.1 hl6 hm6).mono ?_
      rw [HP.out.2.1]
      rintro e w7 ⟨v7, rfl, ho7, hb7⟩
      obtain ⟨A7, d7, rfl, hrv7, hl7, hm7, _⟩ := ho7.slice
      dsimp only at hrv7 hl7 ⊢
      rw [HR.out.2] at hl7 ⊢
      have H7 := Lib.hid (And.intro hrv7 (below_then H6.out.2 H6.out.2.size hb7))
      clear ho7 hrv7 hb7
      go_wp2_with fail
      refine (same_n A7 A n n d7 d xs xs w7 HR.out.2 HR.out.2 H7.out.1 (HR.out.1.below H7.out.2) (by unfold maxLen; omega) (by unfold maxLen; omega)).mono ?_
      rintro e w8 ⟨rfl, hd8⟩
      rw [decide_eq_true rfl]
      have H8 := Lib.hid (below_then H7.out.2 H7.out.2.size (hd8.below _))
      clear hd8
      go_wp2_with fail
      refine (HL.out _).mono ?_
      rintro e w9 ⟨rfl, hb9⟩
      have H9 := Lib.hid (below_then H8.out H8.out.size hb9)
      clear hb9
      go_wp2_with fail
      go_ret
      exact ⟨rfl, H9.out⟩
end Go.Proofs.Ytegoeagmadhpgaa
