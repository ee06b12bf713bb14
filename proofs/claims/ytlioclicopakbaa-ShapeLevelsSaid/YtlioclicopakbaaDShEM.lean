import Derived.Test.YtlioclicopakbaaDShLM
import Derived.Test.YtlioclicopakbaaShLeM
set_option linter.unusedVariables false
set_option linter.unusedSimpArgs false
/- Layer 16, the document's Levels: contract. -/
namespace Go.Proofs.Ytlioclicopakbaa
open Go.RowKit

set_option maxRecDepth 100000 in
set_option maxHeartbeats 2000000 in
theorem dLevels_any (w : World) (s : Int) (A : Option Addr) (n d : Nat) (l : List Fct) (h : FctsIn w A n l) (hv : ∀ f ∈ l, f.val.length ≤ 140737488351232) (hn : n * 64 ≤ 140737488351232) :
    Calls Try.prog 18 #[.int .i64 s, .slice A n d] w (IntsEnd w (levelsS s l)) := by
  have HL := Lib.hid (dLeaves_any w s A n d l h hv hn)
  have H := Lib.hid (And.intro h h.1)
  have hcode : (leavesS s l).2 ≤ 3 := shCut_code s (itsL l) 1
  by_cases h0 : (leavesS s l).2 ≠ 0 ∨ (leavesS s l).1.length = 0
  · have hr : levelsS s l = ([], (leavesS s l).2) := if_pos h0
    rw [hr]
    clear hr h hv H
    generalize leavesS s l = r at *
    obtain ⟨cs, ce⟩ := r
    dsimp only at HL h0 hcode ⊢
    obtain ⟨m, hm⟩ : ∃ m, cs.length = m := ⟨_, rfl⟩
    rw [hm] at h0
    have HM := Lib.hid hm
    clear hm
    by_cases hc : ce = 0
    · subst hc
      obtain rfl : m = 0 := by omega
      clear h0
      go_enter Try.func18, Try.ntmps18
      go_wp2_with (go_at_call 9; refine HL.out.mono ?_; rintro e w1 ⟨v1, rfl, ho1, hb1⟩; obtain ⟨A1, c1, rfl, hrv1, _, _⟩ := OwnI.slice ho1; dsimp only; rw [HM.out]; have H1 := Lib.hid hb1; clear hb1 ho1 hrv1)
      go_ret2
      exact ⟨_, rfl, OwnI.nil _ _ _, H1.out⟩
    · have t1 : ((ce : Int) != 0) = true := by simp; omega
      clear h0
      go_enter Try.func18, Try.ntmps18
      go_wp2_with (go_at_call 9; refine HL.out.mono ?_; rintro e w1 ⟨v1, rfl, ho1, hb1⟩; obtain ⟨A1, c1, rfl, hrv1, _, _⟩ := OwnI.slice ho1; dsimp only; rw [HM.out]; have H1 := Lib.hid hb1; clear hb1 ho1 hrv1)
      go_ret2
      exact ⟨_, rfl, OwnI.nil _ _ _, H1.out⟩
  · have hr : levelsS s l = ((lv0 s l).length :: lvGo s (lv0 s l).length (lv0 s l), 0) := if_neg h0
    have hc0 : (leavesS s l).2 = 0 := by omega
    obtain ⟨hs, hg, hsum, hpos⟩ := leavesS_ok hc0
    rw [hr]
    unfold lv0
    clear hr
    have hle := H.out.2
    generalize leavesS s l = r at *
    obtain ⟨cs, ce⟩ := r
    dsimp only at HL h0 hcode hc0 hsum hpos ⊢
    subst hc0
    have hf1 := firstsS_len (l.map (·.key)) cs (by rw [List.length_map]; exact hsum) hpos
    have hf2 := firstsS_sub (l.map (·.key)) cs hpos
    have hf4 := hf2.length_le
    rw [List.length_map] at hf4
    obtain ⟨m, hm⟩ : ∃ m, cs.length = m := ⟨_, rfl⟩
    rw [hm] at hf1
    rw [hf1]
    obtain ⟨X, hX⟩ : ∃ X, m :: lvGo s m (firstsS (l.map (·.key)) cs) = X := ⟨_, rfl⟩
    rw [hX]
    have hm1 : 1 ≤ m := by omega
    have hmn : m ≤ n := by omega
    have HM := Lib.hid (show cs.length = m ∧ goodKs (l.map (·.key)) ∧ cs.sum = n ∧ (∀ c ∈ cs, 1 ≤ c) ∧ m :: lvGo s m (firstsS (l.map (·.key)) cs) = X from ⟨hm, hg, by omega, hpos, hX⟩)
    clear hm hf1 hf2 hf4 hX hsum hpos h0 hle hg h hv
    obtain ⟨ii, iz, hii, hiz, hi1, hi2, hi3⟩ := ky_info'
    obtain ⟨ji, jz, hji, hjz, hj1, hj2, hj3⟩ := int_info'
    have tm : ((m : Int) == 0) = false := beq_eq_false_iff_ne.2 (by omega)
    go_enter Try.func18, Try.ntmps18
    go_wp2_with (go_at_call 9; refine HL.out.mono ?_; rintro e w1 ⟨v1, rfl, ho1, hb1⟩; obtain ⟨A1, c1, rfl, hrv1, _, _⟩ := OwnI.slice ho1; dsimp only; rw [HM.out.1]; have H1 := Lib.hid (And.intro hb1 hrv1); clear hb1 ho1 hrv1)
    go_loopg [8, 9] n (fun k v i wr => ∃ j : Nat, j + k = n ∧ i = .int .i64 j ∧ OwnY wr w1.heap.size v j ((l.take j).map (·.key)) ∧ Below w1.heap.size w1 wr)
    case atStart => exact ⟨0, by omega, rfl, OwnL.nil _ _ _, Below.refl _ _⟩
    case round =>
      obtain ⟨j, hj, rfl, ho, hb⟩ := hrel
      have HX := Lib.hid (And.intro hj (And.intro ho (And.intro hb (below_then H1.out.1 H1.out.1.size hb))))
      clear hj ho hb
      by_cases hlt : j < n
      · obtain ⟨f, hf⟩ : ∃ f, l[j]? = some f := ⟨_, List.getElem?_eq_getElem (by have := H.out.2; omega)⟩
        obtain ⟨okf, ad, B1, d1, hA, hr1, l1, l2, hblk, x0, x1, x2, x3, x4⟩ := FctsIn.at_ H.out.1 hf
        subst hA
        have up : ∀ {p : Addr} {u : Value}, w.cell? p = some u → p.block < w.heap.size → wr.cell? p = some u := fun hu hp => (World.cell?_of_block (HX.out.2.2.2.block _ hp)).trans hu
        have p0 := up x0 hblk
        have p1 := up x1 hblk
        have p2 := up x2 hblk
        have p3 := up x3 hblk
        have hjn : (j : Int) < (n : Int) := by omega
        have htk := map_step (·.key) hf
        have hown := HX.out.2.1
        generalize (l.take j).map (·.key) = G at hown htk
        have HV := Lib.hid (And.intro okf (And.intro htk hown))
        clear x0 x1 x2 x3 x4 up hf okf hr1 htk hown
        obtain ⟨⟨fi, fa, fs, fc⟩, fv⟩ := f
        dsimp only at p0 p1 p2 p3 HV l1
        go_wp2_with (at_builtin; refine wpList_appL1 (cell := kyCells) (val := kyVal) (ok := okKy) (sz := 4) wr rfl _ _ 28 rfl w1.heap.size 33 ii iz 40 Try.underlying28 hii hiz hi1 hi2 hi3 (by decide) ky_len ky_one u8 j G rfl HV.out.2.2 (⟨fi, fa, fs, fc⟩ : Ky) (.slice none 0 0) rfl HV.out.1 (noVal _ _) _ rfl ?_ ?_ ?_ ?_)
        · unfold maxLen; omega
        · omega
        · exact HX.out.2.2.1.size
        intro v2 w2 ho2 hg2 hv2
        rw [← HV.out.2.1] at ho2
        have H2 := Lib.hid (And.intro ho2 (HX.out.2.2.1.grown hg2 HX.out.2.2.1.size (fun k e => (OwnL.blk HV.out.2.2 e).1)))
        clear ho2 hg2 hv2 p0 p1 p2 p3
        go_wp2_with fail
        go_roundg (n - (j + 1))
        case measure => have := HX.out.1; omega
        case rel => exact ⟨j + 1, by have := HX.out.1; omega, by go_num, H2.out.1, H2.out.2⟩
      · obtain rfl : j = n := by have := HX.out.1; omega
        have hge : ¬ (j : Int) < (j : Int) := by omega
        have ho := HX.out.2.1
        rw [List.take_of_length_le (by have := H.out.2; omega)] at ho
        obtain ⟨A6, c6, rfl, hin, hl6, hm6, _⟩ := OwnL.listIn ky_len ho
        have HK := Lib.hid (And.intro hin (And.intro (H1.out.2.below HX.out.2.2.1) HX.out.2.2.2))
        clear ho hin HX
        go_wp2_with fail
        go_loopg [6, 8, 10] m (fun k cv kv lv wr => ∃ (ks : List Ky) (cs : List Nat) (xs : List Nat) (A' B' : Option Addr) (q c' y e' : Nat), kv = .slice A' q c' ∧ cv = .slice B' y e' ∧ q ≤ c' ∧ c' ≤ maxLen ∧ y ≤ q ∧ y ≤ k ∧ q ≤ j ∧ 1 ≤ y ∧ xs.length + k = m ∧ goodKs ks ∧ KeysIn wr A' q ks ∧ RV wr B' (iv cs) ∧ cs.length = y ∧ cs.sum = q ∧ (∀ c ∈ cs, 1 ≤ c) ∧ OwnI 3 wr w.heap.size lv xs ∧ Below w.heap.size w wr ∧ xs ++ (y :: lvGo s k (firstsS ks cs)) = X)
        case atStart => exact ⟨l.map (fun f : Fct => f.key), cs, [], A6, A1, j, c6, m, c1, rfl, rfl, hl6, hm6, hmn, Nat.le_refl _, Nat.le_refl _, hm1, by simp, HM.out.2.1, HK.out.1, HK.out.2.1, HM.out.1, HM.out.2.2.1, HM.out.2.2.2.1, OwnI.nil _ _ _, HK.out.2.2, HM.out.2.2.2.2⟩
        case round =>
          obtain ⟨ks, cs2, xs, A', B', q, c', y, e', rfl, rfl, hqc, hc'm, hyq, hyk, hqj, hy1, hxk, hgk, hin, hrv, hcl, hcs, hcp, hoi, hbb, heq⟩ := hrel
          have hxl : xs.length ≤ m := by omega
          have HY := Lib.hid (show goodKs ks ∧ KeysIn wr A' q ks ∧ RV wr B' (iv cs2) ∧ cs2.length = y ∧ cs2.sum = q ∧ (∀ c ∈ cs2, 1 ≤ c) ∧ OwnI 3 wr w.heap.size u10 xs ∧ Below w.heap.size w wr ∧ xs ++ (y :: lvGo s gk (firstsS ks cs2)) = X ∧ xs.length + gk = m from ⟨hgk, hin, hrv, hcl, hcs, hcp, hoi, hbb, heq, hxk⟩)
          clear hgk hin hrv hcl hcs hcp hoi hbb heq hxk
          obtain ⟨z, hz⟩ : ∃ z, gk = z := ⟨_, rfl⟩
          rw [hz] at hyk HY
          have HZ := Lib.hid hz
          clear hz
          generalize wr = W0 at *
          go_wp2_with fail
          go_loopg [11, 12, 13] y (fun k v at_ i wr3 => ∃ (t o : Nat) (G : List Ky), t + k = y ∧ i = .int .i64 t ∧ at_ = .int .i64 o ∧ o + (cs2.drop t).sum = q ∧ OwnY wr3 W0.heap.size v t G ∧ Below W0.heap.size W0 wr3 ∧ G ++ firstsS (ks.drop o) (cs2.drop t) = firstsS ks cs2)
          case atStart => exact ⟨0, 0, [], by omega, rfl, rfl, by simpa using HY.out.2.2.2.2.1, OwnL.nil _ _ _, Below.refl _ _, rfl⟩
          case round =>
            obtain ⟨t, o, G, ht, rfl, rfl, hos, hoG, hbG, hfG⟩ := hrel
            have HT := Lib.hid (show t + gk = y ∧ OwnY wr W0.heap.size u11 t G ∧ Below W0.heap.size W0 wr ∧ G ++ firstsS (ks.drop o) (cs2.drop t) = firstsS ks cs2 ∧ o + (cs2.drop t).sum = q from ⟨ht, hoG, hbG, hfG, hos⟩)
            have hoq : o ≤ q := by omega
            clear ht hoG hbG hfG hos
            by_cases hlt2 : t < y
            · obtain ⟨c, hc⟩ : ∃ c, cs2[t]? = some c := ⟨_, List.getElem?_eq_getElem (by have := HY.out.2.2.2.1; omega)⟩
              have hcd : cs2.drop t = c :: cs2.drop (t + 1) := by
                obtain ⟨h2, h3⟩ := List.getElem?_eq_some_iff.1 hc
                rw [List.drop_eq_getElem_cons h2, h3]
              have hc1 := HY.out.2.2.2.2.2.1 c (List.mem_of_getElem? hc)
              have hsm := HT.out.2.2.2.2
              rw [hcd, List.sum_cons] at hsm
              obtain ⟨k, hk⟩ : ∃ k, ks[o]? = some k := ⟨_, List.getElem?_eq_getElem (by have := HY.out.2.1.1; omega)⟩
              have hkd : ks.drop o = k :: ks.drop (o + 1) := by
                obtain ⟨h2, h3⟩ := List.getElem?_eq_some_iff.1 hk
                rw [List.drop_eq_getElem_cons h2, h3]
              have heq := HT.out.2.2.2.1
              rw [hcd, hkd, firstsS, ← hkd, List.drop_drop] at heq
              obtain ⟨okk, ad, hA, hblk, x0, x1, x2, x3⟩ := KeysIn.at_ HY.out.2.1 hk
              subst hA
              have up : ∀ {p : Addr} {u : Value}, W0.cell? p = some u → p.block < W0.heap.size → wr.cell? p = some u := fun hu hp => (World.cell?_of_block (HT.out.2.2.1.block _ hp)).trans hu
              have p0 := up x0 hblk
              have p1 := up x1 hblk
              have p2 := up x2 hblk
              have p3 := up x3 hblk
              obtain ⟨adB, hB, hcB⟩ := HY.out.2.2.1 (by rw [iv_length]; have := HY.out.2.2.2.1; omega)
              have y0' := hcB t (.int .i64 (c : Int)) (by unfold iv; rw [List.getElem?_map, hc]; rfl)
              have hblkB := World.block_lt_of_cell? W0 _ y0'
              subst hB
              have HV := Lib.hid (And.intro okk (And.intro heq (And.intro y0' (show o + c + (cs2.drop (t + 1)).sum = q by omega))))
              have hocq : o + c ≤ q := by omega
              have hoqI : (o : Int) < (q : Int) := by omega
              have htyI : (t : Int) < (y : Int) := by omega
              clear x0 x1 x2 x3 up hk okk heq hcB hcd hkd hc y0' hsm
              obtain ⟨fi, fa, fs, fc⟩ := k
              dsimp only at p0 p1 p2 p3 HV
              go_wp2_with (at_builtin; refine wpList_appL1 (cell := kyCells) (val := kyVal) (ok := okKy) (sz := 4) wr rfl _ _ 28 rfl W0.heap.size 33 ii iz 40 Try.underlying28 hii hiz hi1 hi2 hi3 (by decide) ky_len ky_one u11 t G rfl HT.out.2.1 (⟨fi, fa, fs, fc⟩ : Ky) (.slice none 0 0) rfl HV.out.1 (noVal _ _) _ rfl ?_ ?_ ?_ ?_)
              · unfold maxLen; omega
              · omega
              · exact HT.out.2.2.1.size
              intro v2 w2 ho2 hg2 hv2
              have hb2 := HT.out.2.2.1.grown hg2 HT.out.2.2.1.size (fun k e => (OwnL.blk HT.out.2.1 e).1)
              have y0 := (World.cell?_of_block (hb2.block _ hblkB)).trans HV.out.2.2.1
              have H2 := Lib.hid (And.intro ho2 hb2)
              clear ho2 hg2 hv2 hb2 p0 p1 p2 p3
              go_wp2_with fail
              go_roundg (y - (t + 1))
              case measure => have := HT.out.1; omega
              case rel => exact ⟨t + 1, o + c, G ++ [⟨fi, fa, fs, fc⟩], by have := HT.out.1; omega, by go_num, by go_num, HV.out.2.2.2, H2.out.1, H2.out.2, by rw [List.append_assoc]; exact HV.out.2.1⟩
            · obtain rfl : t = y := by have := HT.out.1; omega
              have hge2 : ¬ (t : Int) < (t : Int) := by omega
              have heq := HT.out.2.2.2.1
              rw [List.drop_of_length_le (l := cs2) (by have := HY.out.2.2.2.1; omega)] at heq
              have hnil : firstsS (ks.drop o) [] = [] := by unfold firstsS; rfl
              rw [hnil, List.append_nil] at heq
              have ho := HT.out.2.1
              rw [heq] at ho
              have hfl := OwnL.len ho
              have hsub := firstsS_sub ks cs2 HY.out.2.2.2.2.2.1
              have hgf := goodKs_sub HY.out.1 hsub
              obtain ⟨A5, c5, rfl, hin5, hl5, hm5, hA5⟩ := OwnL.listIn ky_len ho
              have hIn := HY.out.2.2.2.2.2.2.1.below HT.out.2.2.1
              have hbb := below_then HY.out.2.2.2.2.2.2.2.1 HY.out.2.2.2.2.2.2.2.1.size HT.out.2.2.1
              have hfar : ∀ ad, A5 = some ad → some ad.block ≠ u10.ownBlock := fun ad e he => by
                have h1 := (hA5 ad e).2
                have h2 := (HY.out.2.2.2.2.2.2.1.blk he.symm).2
                omega
              have heqX := HY.out.2.2.2.2.2.2.2.2.1
              generalize firstsS ks cs2 = fk at *
              have HF := Lib.hid (And.intro hin5 (And.intro hIn (And.intro hbb (And.intro hfar (And.intro hfl (And.intro hgf heqX))))))
              clear heq hnil ho hfl hsub hgf hin5 hA5 hIn hbb hfar heqX
              go_wp2_with (at_builtin; refine wpList_appI wr rfl _ _ 23 rfl w.heap.size 3 ji jz Try.underlying23 hji hjz hj1 hj2 hj3 u10 xs rfl HF.out.2.1 t _ rfl rfl ?_ ?_ ?_)
              · omega
              · exact HF.out.2.2.1.size
              intro v6 w6 ho6 hg6
              have hin6 := ListIn.grown HF.out.1 hg6 HF.out.2.2.2.1 (fun i a ad v _ _ hv _ => by
                obtain ⟨A, c, e, hr, l1, l2, _⟩ := hv
                exact ⟨A, c, e, hr, l1, l2, fun _ _ h => by cases h⟩)
              have H6 := Lib.hid (And.intro ho6 (And.intro (HF.out.2.2.1.grown hg6 HF.out.2.2.1.size (fun k e => (HF.out.2.1.blk e).1)) hin6))
              clear ho6 hg6 hin6
              have heqX := HF.out.2.2.2.2.2.2
              by_cases ht1 : t = 1
              · rw [lvGo_le (by have := HF.out.2.2.2.2.1; omega)] at heqX
                have HE := Lib.hid heqX
                have tt : ((t : Int) == 1) = true := by rw [ht1]; rfl
                clear heqX ht1
                go_wp2_with fail
                go_ret2
                rw [← HE.out]
                exact ⟨_, rfl, H6.out.1, H6.out.2.1⟩
              · have tt : ((t : Int) == 1) = false := beq_eq_false_iff_ne.2 (by omega)
                obtain ⟨z', hz'⟩ : ∃ z', z = z' + 1 := ⟨z - 1, by omega⟩
                rw [hz', lvGo_gt (by have := HF.out.2.2.2.2.1; omega)] at heqX
                obtain ⟨p1, p2, p3, p4⟩ := aboveS_ok hs HF.out.2.2.2.2.2.1
                obtain ⟨r1, r2, r3, r4⟩ := above_less hs HF.out.2.2.2.2.2.1
                have r4' := r4 (fun h => by have := HF.out.2.2.2.2.1; rw [h] at this; simp at this; omega)
                rw [HF.out.2.2.2.2.1] at r2
                have HA := Lib.hid (dAbove_any w6 s A5 t c5 fk H6.out.2.2 (by omega) hl5 hm5)
                generalize hR : aboveS s fk = R at *
                obtain ⟨gs, ae⟩ := R
                dsimp only at p1 p2 p3 p4 r1 r2 r3 r4' heqX
                subst p1
                obtain ⟨y2, hy2⟩ : ∃ y2, gs.length = y2 := ⟨_, rfl⟩
                rw [hy2] at r1 r2 r4'
                rw [r1] at heqX
                have HR := Lib.hid (And.intro p2 (And.intro p3 (And.intro heqX (And.intro hy2 hz'))))
                have hzz : z = z' + 1 := hz'
                have ht2 : 1 < t := by omega
                clear hR p2 p3 p4 r1 r3 r4 heqX hy2 hz' ht1
                go_wp2_with fail
                refine HA.out.mono ?_
                rintro e w7 ⟨v7, rfl, ho7, hb7⟩
                obtain ⟨A7, c7, rfl, hrv7, hl7, hm7⟩ := OwnI.slice ho7
                dsimp only at hrv7 hl7 ⊢
                rw [HR.out.2.2.2.1]
                have H7 := Lib.hid (And.intro hrv7 (And.intro (ListIn.below ky_len (by decide) H6.out.2.2 hb7) (And.intro (H6.out.1.below hb7) (below_then H6.out.2.1 H6.out.2.1.size hb7))))
                clear hrv7 ho7 hb7 hl7
                go_wp2_with fail
                go_roundg z'
                case measure => have := HZ.out; omega
                case rel => exact ⟨fk, gs, xs ++ [t], A5, A7, t, c5, y2, c7, rfl, rfl, hl5, hm5, by omega, by omega, by omega, r4', by have := HY.out.2.2.2.2.2.2.2.2.2; simp; omega, HF.out.2.2.2.2.2.1, H7.out.2.1, H7.out.1, HR.out.2.2.2.1, by rw [HR.out.1, HF.out.2.2.2.2.1], HR.out.2.1, H7.out.2.2.1, H7.out.2.2.2, by rw [← HR.out.2.2.1, List.append_assoc]; rfl⟩
end Go.Proofs.Ytlioclicopakbaa
