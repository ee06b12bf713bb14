/- ShapeMany: the walk. -/
import Derived.Test.YtlioclicopakbaaWorks16
set_option linter.unusedVariables false
set_option linter.unusedSimpArgs false
namespace Go.Proofs.Ytlioclicopakbaa
open Go.RowKit

theorem lvGo_sum {s : Int} (hs : 128 ≤ s ∧ s ≤ 256) : ∀ (f : Nat) (ks : List Ky), goodKs ks → 1 ≤ ks.length → ks.length ≤ f → (lvGo s f ks).sum ≤ 2 * (ks.length - 1) ∧ (ks.length :: lvGo s f ks).getLast? = some 1
  | 0, ks, _, h1, h2 => by omega
  | f + 1, ks, hg, h1, h2 => by
    by_cases h : ks.length ≤ 1
    · rw [lvGo_le h]
      have : ks.length = 1 := by omega
      simp [this]
    · obtain ⟨r1, r2, r3, r4⟩ := above_less hs hg
      have r4' := r4 (fun h0 => by rw [h0] at h1; simp at h1)
      have ih := lvGo_sum hs f _ r3 (by omega) (by omega)
      rw [lvGo_gt (by omega), List.sum_cons, List.getLast?_cons_cons]
      refine ⟨?_, ih.2⟩
      have h3 := ih.1
      rw [r1] at h3 ⊢
      by_cases h4 : (aboveS s ks).1.length = 1
      · omega
      · omega
theorem levelsS_many {s : Int} {l : List Fct} (h : (levelsS s l).2 = 0) : (levelsS s l).1.sum ≤ 3 * l.length ∧ (l.length = 0 ↔ (levelsS s l).1.length = 0) ∧ ((levelsS s l).1.length = 0 ∨ (levelsS s l).1[(levelsS s l).1.length - 1]? = some 1) := by
  unfold levelsS at h ⊢
  by_cases h0 : (leavesS s l).2 ≠ 0 ∨ (leavesS s l).1.length = 0
  · rw [if_pos h0] at h ⊢
    dsimp only at h ⊢
    obtain ⟨_, _, hsum, hpos⟩ := leavesS_ok h
    have hl0 : (leavesS s l).1.length = 0 := by omega
    have hl : l.length = 0 := by rw [← hsum, List.eq_nil_of_length_eq_zero hl0]; rfl
    exact ⟨by simp, by simp [hl], .inl rfl⟩
  · rw [if_neg h0] at h ⊢
    have hc0 : (leavesS s l).2 = 0 := by omega
    obtain ⟨hs, hg, hsum, hpos⟩ := leavesS_ok hc0
    have hf1 := firstsS_len (l.map (·.key)) (leavesS s l).1 (by rw [List.length_map]; exact hsum) hpos
    have hf2 := firstsS_sub (l.map (·.key)) (leavesS s l).1 hpos
    have hf3 := goodKs_sub hg hf2
    have hf4 := hf2.length_le
    rw [List.length_map] at hf4
    have hm := lvGo_sum hs (lv0 s l).length (lv0 s l) hf3 (by show 1 ≤ (lv0 s l).length; unfold lv0; omega) (Nat.le_refl _)
    have hle : (lv0 s l).length ≤ l.length := hf4
    have h1 : 1 ≤ (lv0 s l).length := by unfold lv0; omega
    dsimp only
    refine ⟨by rw [List.sum_cons]; omega, ?_, .inr ?_⟩
    · rw [List.length_cons]
      omega
    · rw [← List.getLast?_eq_getElem?]
      exact hm.2

set_option maxRecDepth 100000 in
set_option maxHeartbeats 1000000 in
theorem walkShapeMany (w : World) (s : Int) (ws : (Lit.int .i64 s).wf = true) (A : Option Addr) (d : Nat) (l : List Fct) (hin : FctsIn w A l.length l) (hvl : ∀ f ∈ l, f.val.length ≤ 140737488351232) (hn : l.length * 64 ≤ 140737488351232) :
    Calls Try.prog 6 #[.int .i64 s, .slice A l.length d] w fun e w' => e = .returned (.bool true) ∧ Below w.heap.size w w' := by
  have hmany := @levelsS_many s l
  obtain ⟨n, hl⟩ : ∃ n, l.length = n := ⟨_, rfl⟩
  rw [hl] at hin hn hmany ⊢
  have HP := Lib.hid (levels_any w s A n d l hin hvl hn)
  have hc : (levelsS s l).2 ≤ 3 := by
    unfold levelsS
    split
    · exact shCut_code s (itsL l) 1
    · simp
  clear hin hvl hl ws
  generalize levelsS s l = r at *
  obtain ⟨xs, e⟩ := r
  dsimp only at HP hc hmany
  obtain ⟨m, hm⟩ : ∃ m, xs.length = m := ⟨_, rfl⟩
  rw [hm] at hmany
  have HM := Lib.hid hm
  clear hm
  by_cases he : e = 0
  · subst he
    obtain ⟨h1, h2, h3⟩ := hmany rfl
    have HS := Lib.hid (And.intro h1 h3)
    clear hmany
    have hprod : IntKind.i64.wrap (3 * (n : Int)) = 3 * (n : Int) := IntWalk.i64_in _ (by omega)
    have tle : decide ((xs.sum : Int) ≤ 3 * (n : Int)) = true := decide_eq_true (by omega)
    have hsb : xs.sum ≤ 1000000000000000 := by omega
    clear h1
    by_cases hn0 : n = 0
    · have hm0 : m = 0 := h2.1 hn0
      subst hn0 hm0
      clear h2 h3
      generalize hxs : xs.sum = sx at *
      obtain rfl : sx = 0 := by have := HS.out.1; omega
      have HX := Lib.hid hxs
      clear hxs tle hprod
      go_enter Try.func6, Try.ntmps6
      go_wp2_with fail
      refine HP.out.mono ?_
      rintro e1 w1 ⟨v1, rfl, ho1, hb1⟩
      obtain ⟨A1, c1, rfl, hrv1, hl1, hm1⟩ := OwnI.slice ho1
      dsimp only at hrv1 hl1 ⊢
      rw [HM.out] at hl1 ⊢
      have H1 := Lib.hid (And.intro hrv1 hb1)
      clear hrv1 ho1 hb1
      go_wp2_with fail
      refine (sum16_any w1 A1 0 c1 xs H1.out.1 HM.out (by rw [HX.out]; exact hsb) (by decide)).mono ?_
      rintro e2 w2 ⟨rfl, rfl⟩
      rw [HX.out]
      go_wp2_with (go_at_call 16; refine (lives16_any _).mono ?_; rintro e4 w4 ⟨rfl, hb4⟩; have H4 := Lib.hid (below_then H1.out.2 H1.out.2.size hb4); clear hb4)
      go_ret
      exact ⟨rfl, H4.out⟩
    · have hm0 : m ≠ 0 := fun h => hn0 (h2.2 h)
      have tn : ((n : Int) == 0) = false := beq_eq_false_iff_ne.2 (by omega)
      have tm : ((m : Int) == 0) = false := beq_eq_false_iff_ne.2 (by omega)
      obtain ⟨q, hq⟩ : ∃ q, m = q + 1 := ⟨m - 1, by omega⟩
      have hq1 : xs[q]? = some 1 := by
        rcases h3 with h3 | h3
        · exact absurd h3 hm0
        · rw [hq, Nat.add_sub_cancel] at h3; exact h3
      subst hq
      have hqI : (((q + 1 : Nat) : Int)) - 1 = (q : Int) := by omega
      have HQ := Lib.hid hq1
      clear h2 h3 hq1
      generalize hxs : xs.sum = sx at *
      have HX := Lib.hid hxs
      clear hxs
      go_enter Try.func6, Try.ntmps6
      go_wp2_with fail
      refine HP.out.mono ?_
      rintro e1 w1 ⟨v1, rfl, ho1, hb1⟩
      obtain ⟨A1, c1, rfl, hrv1, hl1, hm1⟩ := OwnI.slice ho1
      dsimp only at hrv1 hl1 ⊢
      rw [HM.out] at hl1 ⊢
      obtain ⟨ad, hA, hcell⟩ := hrv1 (by rw [iv_length, HM.out]; omega)
      have y0 := hcell q (.int .i64 1) (by rw [iv_get, HQ.out]; rfl)
      subst hA
      have H1 := Lib.hid (And.intro hrv1 hb1)
      have hq7 : q + 1 ≤ 9223372036854775807 := Nat.le_trans hl1 hm1
      clear hrv1 ho1 hb1 hcell
      go_wp2_with fail
      refine (sum16_any w1 (some ad) (q + 1) c1 xs H1.out.1 HM.out (by rw [HX.out]; exact hsb) hq7).mono ?_
      rintro e2 w2 ⟨rfl, rfl⟩
      rw [HX.out]
      go_wp2_with (go_at_call 16; refine (lives16_any _).mono ?_; rintro e4 w4 ⟨rfl, hb4⟩; have H4 := Lib.hid (below_then H1.out.2 H1.out.2.size hb4); clear hb4)
      go_ret
      exact ⟨rfl, H4.out⟩
  · have hne : ((e : Int) != 0) = true := by simp; omega
    clear hmany he
    go_enter Try.func6, Try.ntmps6
    go_wp2_with fail
    refine HP.out.mono ?_
    rintro e1 w1 ⟨v1, rfl, ho1, hb1⟩
    obtain ⟨A1, c1, rfl, hrv1, hl1, hm1⟩ := OwnI.slice ho1
    have H1 := Lib.hid hb1
    clear hrv1 ho1 hb1 hl1
    go_wp2_with (go_at_call 16; refine (lives16_any _).mono ?_; rintro e4 w4 ⟨rfl, hb4⟩; have H4 := Lib.hid (below_then H1.out H1.out.size hb4); clear hb4)
    go_ret
    exact ⟨rfl, H4.out⟩
end Go.Proofs.Ytlioclicopakbaa
