import Derived.Test.YtlioclicopakbaaShAlM
import Derived.Test.YtlioclicopakbaaDLeafPM
import Derived.Test.YtlioclicopakbaaWorks16M
set_option linter.unusedVariables false
set_option linter.unusedSimpArgs false
/- ShapeAll: the walk. -/
namespace Go.Proofs.Ytlioclicopakbaa
open Go.RowKit

set_option maxRecDepth 100000 in
set_option maxHeartbeats 8000000 in
theorem walkShapeAll (w : World) (s : Int) (ws : (Lit.int .i64 s).wf = true) (A : Option Addr) (d : Nat) (l : List Fct) (hin : FctsIn w A l.length l) (hld : l.length ≤ d) (hvl : ∀ f ∈ l, f.val.length ≤ 140737488351232) (hn : l.length * 64 ≤ 140737488351232) :
    Calls Try.prog 5 #[.int .i64 s, .slice A l.length d] w fun e w' => e = .returned (.bool true) ∧ Below w.heap.size w w' := by
  obtain ⟨n, hl⟩ : ∃ n, l.length = n := ⟨_, rfl⟩
  rw [hl] at hin hn hld ⊢
  have HP := Lib.hid (leaves_any w s A n d l hin hvl hn)
  have HKY := Lib.hid (fun w h => keys16_any w A n d l h hn)
  have H := Lib.hid (And.intro hin (And.intro hl hvl))
  have hc3 : (leavesS s l).2 ≤ 3 := shCut_code s (itsL l) 1
  obtain ⟨⟨cs, ce⟩, hr⟩ : ∃ r, leavesS s l = r := ⟨_, rfl⟩
  rw [hr] at HP hc3
  dsimp only at hc3
  obtain ⟨m, hm⟩ : ∃ m, cs.length = m := ⟨_, rfl⟩
  have HMM := Lib.hid hm
  clear hin hvl hl ws hm
  by_cases hce : ce = 0
  · subst hce
    have hsc := shCut_ok_iff (s := s) (its := itsL l) (least := 1) (by show (leavesS s l).2 = 0; rw [hr])
    obtain ⟨hs, hg, hsum, hpos⟩ := leavesS_ok (s := s) (l := l) (by rw [hr])
    obtain ⟨_, _, hsh⟩ := hsc
    have e1 : (shCut s (itsL l) 1).1 = cs := by show (leavesS s l).1 = cs; rw [hr]
    rw [e1] at hsh
    rw [hr] at hsum hpos
    dsimp only at hsum hpos
    obtain ⟨q1, q2, q3, q4⟩ := aboveS_ok hs hg
    have HAB := Lib.hid (fun w A d h => above_any w s A n d (l.map (·.key)) h (by omega))
    rw [List.length_map] at q2
    obtain ⟨⟨ys, cf⟩, hr2⟩ : ∃ r, aboveS s (l.map (·.key)) = r := ⟨_, rfl⟩
    rw [hr2] at q1 q2 q3 q4 HAB
    dsimp only at q1 q2 q3 q4
    subst q1
    obtain ⟨y, hy⟩ : ∃ y, ys.length = y := ⟨_, rfl⟩
    rw [hy] at q4
    have HA := Lib.hid (show cs.sum = n ∧ (∀ c ∈ cs, 1 ≤ c) ∧ shGo (s.toNat - 6) 1 (itsL l) 0 (s.toNat - 6) = some cs ∧ goodKs (l.map (·.key)) ∧ (128 ≤ s ∧ s ≤ 256) from ⟨by rw [hsum]; exact H.out.2.1, hpos, hsh, hg, hs⟩)
    have HQ := Lib.hid (show ys.sum = n ∧ (∀ c ∈ ys, 1 ≤ c) ∧ (∀ i c, i + 1 < y → ys[i]? = some c → 2 ≤ c) ∧ ys.length = y from ⟨by rw [q2]; exact H.out.2.1, q3, q4, hy⟩)
    clear hsum hpos hsh hg hs q2 q3 q4 hy hr2 e1 hr
    have hnn : ((n : Int) != (n : Int)) = false := by simp
    go_enter Try.func5, Try.ntmps5
    go_wp2_with fail
    refine HP.out.mono ?_
    rintro e1 w1 ⟨v1, rfl, ho1, hb1⟩
    obtain ⟨A1, c1, rfl, hrv1, hl1, hm1⟩ := OwnI.slice ho1
    dsimp only at hrv1 hl1 ⊢
    rw [HMM.out] at hl1 ⊢
    have H1 := Lib.hid (And.intro hrv1 hb1)
    have hm7 : m ≤ 9223372036854775807 := Nat.le_trans hl1 hm1
    clear hrv1 ho1 hb1
    go_wp2_with fail
    refine (sum16_any w1 A1 m c1 cs H1.out.1 HMM.out (by rw [HA.out.1]; omega) hm7).mono ?_
    rintro e2 w2 ⟨rfl, rfl⟩
    rw [HA.out.1]
    go_wp2_with fail
    go_loopg [7, 8] m (fun k at_ i wr => ∃ (t o : Nat), t + k = m ∧ i = .int .i64 t ∧ at_ = .int .i64 o ∧ o + (cs.drop t).sum = n ∧ shGo (s.toNat - 6) 1 ((itsL l).drop o) 0 (s.toNat - 6) = some (cs.drop t) ∧ Below w2.heap.size w2 wr)
    case atStart => exact ⟨0, 0, by omega, rfl, rfl, by simpa using HA.out.1, by simpa using HA.out.2.2.1, Below.refl _ _⟩
    case round =>
      obtain ⟨t, o, ht, rfl, rfl, hos, hsh, hb⟩ := hrel
      have hon : o ≤ n := by omega
      have HX := Lib.hid (And.intro ht (And.intro hos (And.intro hsh (And.intro hb (below_then H1.out.2 H1.out.2.size hb)))))
      clear ht hos hsh hb
      by_cases hlt : t < m
      · obtain ⟨c, hc⟩ : ∃ c, cs[t]? = some c := ⟨_, List.getElem?_eq_getElem (by have := HMM.out; omega)⟩
        have hcd : cs.drop t = c :: cs.drop (t + 1) := by
          obtain ⟨h2, h3⟩ := List.getElem?_eq_some_iff.1 hc
          rw [List.drop_eq_getElem_cons h2, h3]
        have hc1 := HA.out.2.1 c (List.mem_of_getElem? hc)
        have hos := HX.out.2.1
        rw [hcd, List.sum_cons] at hos
        have hsh := HX.out.2.2.1
        rw [hcd] at hsh
        have hol : o < l.length := by have := H.out.2.1; omega
        obtain ⟨g1, g2, g3, g4, g5⟩ := leaf_put HA.out.2.2.2.2 HA.out.2.2.2.1 hol hsh
        rw [H.out.2.1] at g3
        obtain ⟨ad1, hA1, hcell1⟩ := (H1.out.1.below HX.out.2.2.2.1) (by rw [iv_length, HMM.out]; omega)
        have y0 := hcell1 t (.int .i64 (c : Int)) (by rw [iv_get, hc]; rfl)
        subst hA1
        obtain ⟨f0, hf0⟩ : ∃ f, l[o]? = some f := ⟨_, List.getElem?_eq_getElem hol⟩
        obtain ⟨_, ad, _, hA, _⟩ := H.out.1.2 o f0 hf0
        subst hA
        have hinw := ListIn.below fct_len (by decide) H.out.1 HX.out.2.2.2.2
        have hseg := ListIn.part hinw o (o + c) (by omega) g3
        rw [Nat.add_sub_cancel_left] at hseg
        have hvs : ∀ f ∈ (l.take (o + c)).drop o, f.val.length ≤ 140737488351232 := fun f hf => H.out.2.2 f (List.mem_of_mem_take (List.mem_of_mem_drop hf))
        have HPL := Lib.hid (fun d' => dPutLeaf_any wr s (some (ad.add (o * 5))) c d' _ hseg hvs (by omega))
        have hpc := putLeafS_code s ((l.take (o + c)).drop o)
        have HG := Lib.hid (And.intro g4 (And.intro (show o + c + (cs.drop (t + 1)).sum = n by omega) g5))
        obtain ⟨⟨pg, code⟩, hpr⟩ : ∃ r, putLeafS s ((l.take (o + c)).drop o) = r := ⟨_, rfl⟩
        rw [hpr] at HPL HG hpc
        dsimp only at hpc
        clear hc hcd hos hsh g4 g5 hcell1 hf0 hinw hseg hvs hpr
        have q1 : ¬ c < 1 := by omega
        have q2 : decide ((n : Int) - (o : Int) < (c : Int)) = false := decide_eq_false (by omega)
        have hocd : o + c ≤ d := by omega
        have hod : o < d := by omega
        have hdo : ¬ d = o := by omega
        have p1 : (o : Int) ≤ (o : Int) + (c : Int) := by omega
        have p2 : (o : Int) + (c : Int) ≤ (d : Int) := by omega
        have p3 : (t : Int) < (m : Int) := by omega
        have hoc : ((o : Int) + (c : Int)) - (o : Int) = (c : Int) := by omega
        go_wp2_with fail
        refine (HPL.out (d - o)).mono ?_
        rintro e3 w3 ⟨v3, rfl, ho3, hb3⟩
        obtain ⟨A3, d3, rfl, _, _, _, _⟩ := ho3.slice
        dsimp only
        have y1 : w3.cell? (ad1.add t) = some (.int .i64 (c : Int)) := (World.cell?_of_block (hb3.block _ (World.block_lt_of_cell? wr _ y0))).trans y0
        have H3 := Lib.hid (And.intro (below_then HX.out.2.2.2.1 HX.out.2.2.2.1.size hb3) (below_then HX.out.2.2.2.2 HX.out.2.2.2.2.size hb3))
        clear ho3 hb3 y0
        go_wp2_with fail
        go_loopg [11, 12] c (fun k bd i wr2 => ∃ q : Nat, q + k = o + c ∧ o ≤ q ∧ i = .int .i64 q ∧ bd = .bool (((l.take q).drop o).any badF) ∧ wr2 = w3)
        case atStart => exact ⟨o, rfl, Nat.le_refl _, rfl, by rw [List.drop_of_length_le (by rw [List.length_take]; omega)]; rfl, rfl⟩
        case round =>
          obtain ⟨q, hq, hoq, rfl, rfl, rfl⟩ := hrel
          have HQ2 := Lib.hid hq
          have hqoc : q ≤ o + c := by omega
          clear hq
          by_cases hlt2 : q < o + c
          · obtain ⟨f, hf⟩ : ∃ f, l[q]? = some f := ⟨_, List.getElem?_eq_getElem (by have := H.out.2.1; omega)⟩
            obtain ⟨okf, ad2, B1, d1, hA, hr1, l1, l2, hblk, x0, x1, x2, x3, x4⟩ := FctsIn.at_ H.out.1 hf
            injection hA with hA
            subst hA
            have up : ∀ {p : Addr} {u : Value}, w.cell? p = some u → p.block < w.heap.size → wr.cell? p = some u := fun hu hp => (World.cell?_of_block (H3.out.2.block _ hp)).trans hu
            have z4 := up x4 hblk
            have hst := seg_step hoq hf
            have hqI : (q : Int) < (o : Int) + (c : Int) := by omega
            have hqn : (q : Int) < (n : Int) := by omega
            clear x0 x1 x2 x3 x4 up hf okf hr1 hblk
            obtain ⟨L, hL⟩ : ∃ L, f.val.length = L := ⟨_, rfl⟩
            have hnx : ((l.take (q + 1)).drop o).any badF = (((l.take q).drop o).any badF || (decide (L < 1) || decide (255 < L))) := by
              rw [hst, List.any_append]
              simp [badF, hL]
            rw [hL] at z4 l1
            clear hst hL
            generalize ((l.take q).drop o).any badF = b at *
            have HNX := Lib.hid hnx
            clear hnx
            have hLd : (L : Int) ≤ 9223372036854775807 := by unfold maxLen at l2; omega
            cases b
            · rcases (show L < 1 ∨ 255 < L ∨ (1 ≤ L ∧ L ≤ 255) by omega) with hl | hl | ⟨hl, hl'⟩
              · have hnb : true = ((l.take (q + 1)).drop o).any badF := by rw [HNX.out, decide_eq_true hl]; rfl
                have HNB := Lib.hid hnb
                clear hnb
                go_wp2_with fail
                go_roundg (o + c - (q + 1))
                case measure => have := HQ2.out; omega
                case rel => exact ⟨q + 1, by have := HQ2.out; omega, by omega, by go_num, by rw [← HNB.out], rfl⟩
              · have hnb : true = ((l.take (q + 1)).drop o).any badF := by rw [HNX.out, decide_eq_true hl]; simp
                have HNB := Lib.hid hnb
                have t6 : decide (L < 1) = false := decide_eq_false (by omega)
                have t7 : decide ((L : Int) < 1) = false := decide_eq_false (by omega)
                have t4 : decide (255 < L) = true := decide_eq_true hl
                have t5 : decide ((255 : Int) < (L : Int)) = true := decide_eq_true (by omega)
                clear hnb
                go_wp2_with fail
                go_roundg (o + c - (q + 1))
                case measure => have := HQ2.out; omega
                case rel => exact ⟨q + 1, by have := HQ2.out; omega, by omega, by go_num, by rw [← HNB.out], rfl⟩
              · have hnb : false = ((l.take (q + 1)).drop o).any badF := by rw [HNX.out, decide_eq_false (by omega), decide_eq_false (by omega)]; rfl
                have HNB := Lib.hid hnb
                have t6 : decide (L < 1) = false := decide_eq_false (by omega)
                have t7 : decide ((L : Int) < 1) = false := decide_eq_false (by omega)
                have t4 : decide (255 < L) = false := decide_eq_false (by omega)
                have t5 : decide ((255 : Int) < (L : Int)) = false := decide_eq_false (by omega)
                clear hnb
                go_wp2_with fail
                go_roundg (o + c - (q + 1))
                case measure => have := HQ2.out; omega
                case rel => exact ⟨q + 1, by have := HQ2.out; omega, by omega, by go_num, by rw [← HNB.out], rfl⟩
            · have hnb : true = ((l.take (q + 1)).drop o).any badF := by rw [HNX.out]; rfl
              have HNB := Lib.hid hnb
              clear hnb
              go_wp2_with fail
              go_roundg (o + c - (q + 1))
              case measure => have := HQ2.out; omega
              case rel => exact ⟨q + 1, by have := HQ2.out; omega, by omega, by go_num, by rw [← HNB.out], rfl⟩
          · obtain rfl : q = o + c := by omega
            have hge2 : ¬ ((o : Int) + (c : Int)) < ((o : Int) + (c : Int)) := by omega
            have hge3 : ¬ ((o + c : Nat) : Int) < ((o : Int) + (c : Int)) := by omega
            by_cases hcode : code = 0
            · subst hcode
              generalize ((l.take (o + c)).drop o).any badF = b at *
              go_wp2_with fail
              go_roundg (m - (t + 1))
              case measure => have := HX.out.1; omega
              case rel => exact ⟨t + 1, o + c, by have := HX.out.1; omega, by go_num, by go_num, HG.out.2.1, HG.out.1, H3.out.1⟩
            · have hb := HG.out.2.2 hcode
              rw [hb]
              have tc : ((code : Int) != 0) = true := by simp; omega
              clear hb hcode
              go_wp2_with fail
              go_roundg (m - (t + 1))
              case measure => have := HX.out.1; omega
              case rel => exact ⟨t + 1, o + c, by have := HX.out.1; omega, by go_num, by go_num, HG.out.2.1, HG.out.1, H3.out.1⟩
      · obtain rfl : t = m := by have := HX.out.1; omega
        have hge : ¬ (t : Int) < (t : Int) := by omega
        go_wp2_with fail
        refine (HKY.out wr (ListIn.below fct_len (by decide) H.out.1 HX.out.2.2.2.2)).mono ?_
        rintro e4 w4 ⟨v4, rfl, ho4, hb4⟩
        obtain ⟨A4, c4, rfl, hin4, hl4, hm4, _⟩ := OwnL.listIn ky_len ho4
        have H4 := Lib.hid (And.intro hin4 (below_then HX.out.2.2.2.2 HX.out.2.2.2.2.size hb4))
        clear ho4 hin4 hb4
        go_wp2_with fail
        refine (HAB.out w4 A4 c4 H4.out.1).mono ?_
        rintro e5 w5 ⟨v5, rfl, ho5, hb5⟩
        obtain ⟨A5, c5, rfl, hrv5, hl5, hm5⟩ := OwnI.slice ho5
        dsimp only at hrv5 hl5 ⊢
        rw [HQ.out.2.2.2] at hl5 ⊢
        have hy7 : y ≤ 9223372036854775807 := Nat.le_trans hl5 hm5
        have H5 := Lib.hid (And.intro hrv5 (below_then H4.out.2 H4.out.2.size hb5))
        clear hrv5 ho5 hb5
        go_wp2_with fail
        refine (sum16_any w5 A5 y c5 ys H5.out.1 HQ.out.2.2.2 (by rw [HQ.out.1]; omega) hy7).mono ?_
        rintro e6 w6 ⟨rfl, rfl⟩
        rw [HQ.out.1]
        go_wp2_with fail
        go_loopg [14] y (fun k i wr2 => ∃ q : Nat, q + k = y ∧ i = .int .i64 q ∧ wr2 = w6)
        case atStart => exact ⟨0, by omega, rfl, rfl⟩
        case round =>
          obtain ⟨q, hq, rfl, rfl⟩ := hrel
          by_cases hlt2 : q < y
          · obtain ⟨c, hc⟩ : ∃ c, ys[q]? = some c := ⟨_, List.getElem?_eq_getElem (by have := HQ.out.2.2.2; omega)⟩
            obtain ⟨ad1, hA1, hcell1⟩ := H5.out.1 (by rw [iv_length]; have := HQ.out.2.2.2; omega)
            have y0 := hcell1 q (.int .i64 (c : Int)) (by rw [iv_get, hc]; rfl)
            subst hA1
            have hc1 := HQ.out.2.1 c (List.mem_of_getElem? hc)
            have h2 := HQ.out.2.2.1 q c
            have HC := Lib.hid (show q + 1 < y → 2 ≤ c from fun h => h2 h hc)
            have hqI : (q : Int) < (y : Int) := by omega
            have tc1 : decide (c < 1) = false := decide_eq_false (by omega)
            have tc2 : decide ((c : Int) < 1) = false := decide_eq_false (by omega)
            clear hc hcell1 h2
            by_cases hq1 : q + 1 < y
            · have hc2 := HC.out hq1
              have tq : decide ((q : Int) < (y : Int) - 1) = true := decide_eq_true (by omega)
              have tc3 : decide (c < 2) = false := decide_eq_false (by omega)
              have tc4 : decide ((c : Int) < 2) = false := decide_eq_false (by omega)
              have hq' := Lib.hid hq
              clear hq
              go_wp2_with fail
              go_roundg (y - (q + 1))
              case measure => have := hq'.out; omega
              case rel => exact ⟨q + 1, by have := hq'.out; omega, by go_num, rfl⟩
            · have tq : decide ((q : Int) < (y : Int) - 1) = false := decide_eq_false (by omega)
              have hq' := Lib.hid hq
              clear hq
              go_wp2_with fail
              go_roundg (y - (q + 1))
              case measure => have := hq'.out; omega
              case rel => exact ⟨q + 1, by have := hq'.out; omega, by go_num, rfl⟩
          · obtain rfl : q = y := by omega
            have hge2 : ¬ (q : Int) < (q : Int) := by omega
            go_wp2_with (go_at_call 16; refine (lives16_any _).mono ?_; rintro e9 w9 ⟨rfl, hb9⟩; have H9 := Lib.hid (below_then H5.out.2 H5.out.2.size hb9); clear hb9)
            go_ret
            exact ⟨rfl, H9.out⟩
  · have hne : ((ce : Int) != 0) = true := by simp; omega
    have hcs : cs = [] := by
      have := shCut_no (s := s) (its := itsL l) (least := 1) (by show (leavesS s l).2 ≠ 0; rw [hr]; exact hce)
      have e1 : (shCut s (itsL l) 1).1 = cs := by show (leavesS s l).1 = cs; rw [hr]
      rw [← e1, this]
    subst hcs
    clear hr hce
    go_enter Try.func5, Try.ntmps5
    go_wp2_with fail
    refine HP.out.mono ?_
    rintro e1 w1 ⟨v1, rfl, ho1, hb1⟩
    obtain ⟨A1, c1, rfl, hrv1, hl1, hm1⟩ := OwnI.slice ho1
    dsimp only [List.length_nil]
    have H1 := Lib.hid hb1
    clear hrv1 ho1 hb1 hl1
    go_wp2_with (go_at_call 16; refine (lives16_any _).mono ?_; rintro e9 w9 ⟨rfl, hb9⟩; have H9 := Lib.hid (below_then H1.out H1.out.size hb9); clear hb9)
    go_ret
    exact ⟨rfl, H9.out⟩
end Go.Proofs.Ytlioclicopakbaa
