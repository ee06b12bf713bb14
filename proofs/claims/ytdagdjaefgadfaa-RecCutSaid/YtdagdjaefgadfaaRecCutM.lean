import Derived.Test.YtdagdjaefgadfaaWorks11M
import Derived.Test.YtdagdjaefgadfaaRecKM
set_option linter.unusedVariables false
set_option linter.unusedSimpArgs false
/- RecCut: the walk. -/
namespace Go.Proofs.Ytdagdjaefgadfaa
open Go.RowKit

set_option maxRecDepth 100000 in
set_option maxHeartbeats 1000000 in
theorem walkRecCut (w : World) (A : Option Addr) (d : Nat) (l : List Chg) (hin : ChgsIn w A l.length l) (hvl : ∀ f ∈ l, f.val.length ≤ 140737488351232) (hn : l.length * 72 ≤ 140737488351232) (y : Int) (wy : (Lit.int .u8 y).wf = true) :
    Calls Try.prog 4 #[.slice A l.length d, .int .u8 y] w fun e w' => e = .returned (.bool true) ∧ Below w.heap.size w w' := by
  obtain ⟨x, rfl, hx⟩ : ∃ x : Nat, y = x ∧ x < 256 := by
    simp [Lit.wf, IntKind.min, IntKind.max, IntKind.signed, IntKind.bits] at wy
    exact ⟨y.toNat, by omega, by omega⟩
  obtain ⟨n, hl⟩ : ∃ n, l.length = n := ⟨_, rfl⟩
  rw [hl] at hin hn ⊢
  have HP := Lib.hid (recPut_any w 256 A n d l hin (by unfold maxLen; omega))
  have hc := recPutS_code' 256 l
  obtain ⟨⟨pg, e⟩, hr⟩ : ∃ r, recPutS 256 l = r := ⟨_, rfl⟩
  rw [hr] at HP hc
  dsimp only at hc
  clear hin hvl hl wy
  by_cases he : e = 0
  · subst he
    obtain ⟨hok, hget, hp1, hp2, hb251⟩ := recPut_said hr
    obtain ⟨P, hP⟩ : ∃ P, pg.length = P := ⟨_, rfl⟩
    obtain ⟨L, hL⟩ : ∃ L, (bodyB l).length = L := ⟨_, rfl⟩
    rw [hP] at hp1 hp2
    rw [hL] at hb251
    have hL1 : 1 ≤ L := by rw [← hL]; unfold bodyB; simp
    have hmod : x % L < L := Nat.mod_lt _ (by omega)
    have hrem : Int.tmod (x : Int) (L : Int) = ((x % L : Nat) : Int) := by rw [Int.tmod_eq_emod_of_nonneg (by omega)]; simp
    have hrem2 : (x : Int) % (L : Int) = ((x % L : Nat) : Int) := by simp
    have hcut := getRecS_cut hok (n := x % L) (by rw [hL]; exact hmod)
    have hcd := (getRecS_bd' ((bodyB l).take (x % L))).2
    obtain ⟨⟨m, c⟩, hg⟩ : ∃ r, getRecS ((bodyB l).take (x % L)) = r := ⟨_, rfl⟩
    rw [hg] at hcut hcd
    dsimp only at hcut hcd
    have htl : ((bodyB l).take (x % L)).length = x % L := by rw [List.length_take, hL]; omega
    have HM := Lib.hid (show pg.length = P ∧ getS pg = (2, bodyB l, 0) ∧ (bodyB l).length = L ∧ getRecS ((bodyB l).take (x % L)) = (m, c) ∧ ((bodyB l).take (x % L)).length = x % L from ⟨hP, hget, hL, hg, htl⟩)
    have tc : ((c : Int) != 0) = true := by simp; omega
    have tL : ((L : Int) == 0) = false := beq_eq_false_iff_ne.2 (by omega)
    have hL0 : ¬ (L : Int) = 0 := by omega
    clear hP hget hL hg hr hok hcut htl
    generalize bodyB l = body at *
    generalize hkk : x % L = k at *
    clear hkk
    have hkI : (k : Int) < (L : Int) := by omega
    have hwk : IntKind.i64.wrap (k : Int) = (k : Int) := IntWalk.i64_in _ (by omega)
    have hwx : IntKind.i64.wrap (x : Int) = (x : Int) := IntWalk.i64_in _ (by omega)
    go_enter Try.func4, Try.ntmps4
    go_wp2_with fail
    refine HP.out.mono ?_
    rintro e1 w1 ⟨v1, rfl, ho1, hb1⟩
    obtain ⟨A1, d1, rfl, hrv1, hl1, hm1, _⟩ := ho1.slice
    dsimp only at hrv1 hl1 ⊢
    rw [HM.out.1] at hl1 ⊢
    have H1 := Lib.hid (And.intro hrv1 hb1)
    clear ho1 hrv1 hb1
    go_wp2_with fail
    refine (getPage_n w1 A1 P d1 pg HM.out.1 H1.out.1 hl1 hm1).mono ?_
    rw [HM.out.2.1]
    rintro e2 w2 ⟨v2, rfl, ho2, hb2⟩
    obtain ⟨A2, d2, rfl, hrv2, hl2, hm2, _⟩ := ho2.slice
    dsimp only at hrv2 hl2 ⊢
    rw [HM.out.2.2.1] at hl2 ⊢
    have hrv2' := hrv2.take k
    rw [← bv_take] at hrv2'
    have H2 := Lib.hid (And.intro hrv2' (below_then H1.out.2 H1.out.2.size hb2))
    have hkd : k ≤ d2 := by omega
    have hkdI : (k : Int) ≤ (d2 : Int) := by omega
    clear ho2 hrv2 hb2 hrv2'
    go_wp2_with fail
    refine (recGet_n w2 A2 k k (body.take k) HM.out.2.2.2.2 H2.out.1 (by omega)).mono ?_
    rw [HM.out.2.2.2.1]
    rintro e3 w3 ⟨v3, rfl, ho3, hb3⟩
    dsimp only at ho3 ⊢
    have H3 := Lib.hid (below_then H2.out.2 H2.out.2.size hb3)
    clear ho3 hb3
    go_wp2_with (go_at_call 12; refine (works11_any _).mono ?_; rintro e6 w6 ⟨rfl, hb6⟩; have H6 := Lib.hid (below_then H3.out H3.out.size hb6); clear hb6)
    go_ret
    exact ⟨rfl, H6.out⟩
  · have hne : ((e : Int) != 0) = true := by simp; omega
    clear hr he
    go_enter Try.func4, Try.ntmps4
    go_wp2_with fail
    refine HP.out.mono ?_
    rintro e1 w1 ⟨v1, rfl, ho1, hb1⟩
    dsimp only
    have H1 := Lib.hid hb1
    clear ho1 hb1
    go_wp2_with (go_at_call 12; refine (works11_any _).mono ?_; rintro e6 w6 ⟨rfl, hb6⟩; have H6 := Lib.hid (below_then H1.out H1.out.size hb6); clear hb6)
    go_ret
    exact ⟨rfl, H6.out⟩
end Go.Proofs.Ytdagdjaefgadfaa
