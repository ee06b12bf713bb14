import Derived.Test.YtckpgbkabbddnaaRecCM
import Derived.Test.YtckpgbkabbddnaaMPlain
set_option linter.unusedVariables false
set_option linter.unusedSimpArgs false
/- Layer 11: contract of body. -/
namespace Go.Proofs.Ytckpgbkabbddnaa
open Go.RowKit

set_option maxRecDepth 100000 in
set_option maxHeartbeats 2000000 in
theorem body_ok (w : World) (A : Option Addr) (n d : Nat) (cs : List Chg) (h : ChgsIn w A n cs) (h1 : 1 ≤ n) (h2 : n ≤ 255) :
    Calls Try.prog 42 #[.slice A n d] w (ChangeEnd w (bodyS' cs)) := by
  have hn := h.1
  have H := Lib.hid (And.intro h hn)
  clear h hn
  go_enter Try.func42, Try.ntmps42
  go_wp2_with fail
  go_loopg [4, 23] n (fun k v i wr => ∃ j : Nat, j + k = n ∧ i = .int .i64 j ∧ OwnB 5 wr w.heap.size v (UInt8.ofNat n :: (cs.take j).flatMap chgB) ∧ Below w.heap.size w wr ∧ ∀ c ∈ cs.take j, chgOk c)
  case atStart => exact ⟨0, by omega, rfl, own_lit1 w _ n (by omega), (Below.refl _ _).alloc (Nat.le_refl _) _, fun c hc => by simp at hc⟩
  case round =>
    obtain ⟨j, hj, rfl, ho, hb, hall⟩ := hrel
    have HX := Lib.hid (And.intro hj (And.intro ho (And.intro hb hall)))
    clear hj ho hb hall
    by_cases hlt : j < n
    · obtain ⟨c, hc⟩ : ∃ c, cs[j]? = some c := ⟨_, List.getElem?_eq_getElem (by have := H.out.2; omega)⟩
      obtain ⟨hok, ad, B, dd, hA, hrv, hl1, hl2, hblk, c0, c1, c2, c3, c4, c5⟩ := H.out.1.at_ hc
      subst hA
      have up : ∀ {p : Addr} {u : Value}, w.cell? p = some u → p.block = (ad.add (j * 6)).block → wr.cell? p = some u := fun hu hp => (World.cell?_of_block (HX.out.2.2.1.block _ (by rw [hp]; exact hblk))).trans hu
      have d0 := up c0 rfl
      have d1 := up c1 rfl
      have d2 := up c2 rfl
      have d3 := up c3 rfl
      have d4 := up c4 rfl
      have d5 := up c5 rfl
      clear c0 c1 c2 c3 c4 c5 up
      obtain ⟨⟨i, a, s, ch⟩, l, gn⟩ := c
      dsimp only at d0 d1 d2 d3 d4 d5 hrv hl1 hok
      have HC := Lib.hid (And.intro hc (And.intro hrv (And.intro hl1 (And.intro hl2 hok))))
      clear hc hrv hok
      go_wp2_with fail
      refine (change_any _ ⟨i, a, s, ch⟩ HC.out.2.2.2.2 B dd l ((HC.out.2.1.below HX.out.2.2.1).alloc _) (Nat.le_trans HC.out.2.2.1 HC.out.2.2.2.1) gn).mono ?_
      rintro e w1 ⟨v1, rfl, ho1, hb1⟩
      have hbb := below_then HX.out.2.2.1 HX.out.2.2.1.size (below_new hb1)
      by_cases hch : chgOk ⟨⟨i, a, s, ch⟩, l, gn⟩
      · have hcs : changeS ⟨⟨i, a, s, ch⟩, l, gn⟩ = (chgB ⟨⟨i, a, s, ch⟩, l, gn⟩, true) := if_pos hch
        rw [hcs] at ho1 ⊢
        dsimp only at ho1 ⊢
        have hft : (cs.take (j + 1)).flatMap chgB = (cs.take j).flatMap chgB ++ chgB ⟨⟨i, a, s, ch⟩, l, gn⟩ := by
          rw [List.take_add_one, HC.out.1, List.flatMap_append]
          simp
        have hal : ∀ c ∈ cs.take (j + 1), chgOk c := by
          intro c hc
          rw [List.take_add_one, HC.out.1] at hc
          rcases List.mem_append.1 hc with hc | hc
          · exact HX.out.2.2.2 c hc
          · simp at hc
            rw [hc]
            exact hch
        have hle := flat_chg_le (cs.take j) HX.out.2.2.2
        rw [List.length_take] at hle
        have hle2 := chgB_length hch
        obtain ⟨A1, e1, rfl, hrv1, _, _, _⟩ := ho1.slice
        have hxs : OwnB 5 w1 w.heap.size u4 (UInt8.ofNat n :: (cs.take j).flatMap chgB) := (HX.out.2.1.below ((Below.refl _ _).alloc (Nat.le_refl _) _)).below hb1
        have hxl : (UInt8.ofNat n :: (cs.take j).flatMap chgB).length ≤ 70000 := by rw [List.length_cons]; omega
        have hft' : UInt8.ofNat n :: (cs.take (j + 1)).flatMap chgB = (UInt8.ofNat n :: (cs.take j).flatMap chgB) ++ chgB ⟨⟨i, a, s, ch⟩, l, gn⟩ := by rw [hft]; rfl
        clear hft hle hch hcs ho1 hb1
        generalize (UInt8.ofNat n :: (cs.take j).flatMap chgB) = X at *
        generalize chgB ⟨⟨i, a, s, ch⟩, l, gn⟩ = Y at *
        have H1 := Lib.hid (And.intro hxs (And.intro hrv1 (And.intro hft' (And.intro hal hbb))))
        clear hxs hrv1 hft' hal hbb
        go_wp2_with (at_builtin; refine wpList_appB _ rfl _ _ 28 rfl w.heap.size 5 Try.underlying28 u8info u4 X rfl H1.out.1 A1 Y.length e1 Y rfl rfl H1.out.2.1 ?_ ?_ ?_)
        · omega
        · exact H1.out.2.2.2.2.size
        intro v2 w2 ho2 hg2 hv2
        have hb2 := H1.out.2.2.2.2.grown hg2 H1.out.2.2.2.2.size fun k e => (H1.out.1.blk e).1
        have H2 := Lib.hid (And.intro ho2 hb2)
        clear ho2 hg2 hv2 hb2
        go_wp2_with fail
        go_roundg (n - (j + 1))
        case measure => have := HX.out.1; omega
        case rel => exact ⟨j + 1, by have := HX.out.1; omega, by go_num, by rw [H1.out.2.2.1]; exact H2.out.1, H2.out.2, H1.out.2.2.2.1⟩
      · have hcs : changeS ⟨⟨i, a, s, ch⟩, l, gn⟩ = ([], false) := if_neg hch
        have hbd : bodyS' cs = ([], false) := if_neg fun h => hch (h.2.2 _ (List.mem_of_getElem? HC.out.1))
        rw [hcs] at ho1 ⊢
        dsimp only at ho1 ⊢
        have H1 := Lib.hid (And.intro hbd hbb)
        clear hbd hbb hcs hch hb1 ho1
        go_wp2_with fail
        go_ret2
        rw [H1.out.1]
        exact ⟨_, rfl, OwnB.nil _ _ _, H1.out.2⟩
    · obtain rfl : j = n := by have := HX.out.1; omega
      have hbd : bodyS' cs = (bodyB cs, true) := if_pos ⟨by rw [H.out.2]; exact h1, by rw [H.out.2]; exact h2, by
        have := HX.out.2.2.2
        rwa [List.take_of_length_le (by rw [H.out.2]; exact Nat.le_refl _)] at this⟩
      have ho := HX.out.2.1
      rw [List.take_of_length_le (by rw [H.out.2]; exact Nat.le_refl _)] at ho
      have hbb : bodyB cs = UInt8.ofNat j :: cs.flatMap chgB := by unfold bodyB; rw [H.out.2]
      rw [← hbb] at ho
      have H1 := Lib.hid (And.intro hbd ho)
      clear hbd ho hbb
      go_wp2_with fail
      go_ret2
      rw [H1.out.1]
      exact ⟨_, rfl, H1.out.2, HX.out.2.2.1⟩
theorem recBody_any (w : World) (A : Option Addr) (n d : Nat) (cs : List Chg) (h : ChgsIn w A n cs) (hn : n ≤ maxLen) :
    Calls Try.prog 42 #[.slice A n d] w (ChangeEnd w (bodyS' cs)) := by
  by_cases h1 : 1 ≤ n ∧ n ≤ 255
  · exact body_ok w A n d cs h h1.1 h1.2
  · have hbd : bodyS' cs = ([], false) := if_neg fun hh => h1 (by have h2 := hh.1; have h3 := hh.2.1; rw [h.1] at h2 h3; exact ⟨h2, h3⟩)
    rw [hbd]
    unfold maxLen at hn
    have h0 : n < 1 ∨ (1 ≤ n ∧ 255 < n) := by omega
    clear h hbd h1
    rcases h0 with h0 | ⟨h0, h1⟩
    all_goals
      go_enter Try.func42, Try.ntmps42
      go_wp2_with fail
      go_ret2
      exact ⟨_, rfl, OwnB.nil _ _ _, Below.refl _ _⟩
end Go.Proofs.Ytckpgbkabbddnaa
