import Derived.Test.YtckpgbkabbddnaaMPages
import Derived.Test.YtckpgbkabbddnaaSealGM
import Derived.Test.YtckpgbkabbddnaaFactEM
set_option linter.unusedVariables false
set_option linter.unusedSimpArgs false
/- The walk of PackBack (layer 13). -/
namespace Go.Proofs.Ytckpgbkabbddnaa
open Go.RowKit

theorem getPage_at (w : World) (A : Option Addr) (n c : Nat) (xs : List UInt8) (hn : xs.length = n) (hr : RV w A (bv xs)) (hlc : n ≤ c) (hc : c ≤ maxLen) :
    Calls Try.prog 10 #[.slice A n c] w (GetPageEnd w (getS xs)) := by
  subst hn
  exact getPage_any w A c xs hr hlc hc

set_option maxRecDepth 100000 in
set_option maxHeartbeats 4000000 in
theorem walkPackBack (w : World) (s : Int) (hs : (Lit.int .i64 s).wf = true) (A : Option Addr) (d : Nat) (l : List Fct) (h : FctsIn w A l.length l) (hv : ∀ f ∈ l, f.val.length ≤ 140737488351232) (hn : l.length * 64 ≤ 140737488351232) :
    Calls Try.prog 3 #[.int .i64 s, .slice A l.length d] w fun e w' => e = .returned (.bool true) ∧ Below w.heap.size w w' := by
  clear hs
  obtain ⟨n, hN⟩ : ∃ n, l.length = n := ⟨_, rfl⟩
  rw [hN] at h hn ⊢
  have HC := Lib.hid (pages_any w s A n d l h hv hn)
  have HF := Lib.hid (And.intro h (And.intro hv hN))
  clear h hv hN
  obtain ⟨⟨pgs, e⟩, hr⟩ : ∃ r, pagesS s l = r := ⟨_, rfl⟩
  rw [hr] at HC
  by_cases he : e = 0
  · subst he
    have h0 : (cutsS s l).2 = 0 := by
      refine Classical.byContradiction fun h => h ?_
      unfold pagesS at hr
      rw [if_pos h] at hr
      exact (Prod.mk.inj hr).2
    have hpg : pgs = (partsS s l).map (pageOf s) := by
      unfold pagesS at hr
      rw [if_neg (fun h => h h0)] at hr
      injection hr with h1 h2
      exact h1.symm
    obtain ⟨hsz, hgood, _, _⟩ := cutsS_ok h0
    have hat := cutsS_at h0
    have hfl := partsS_flat h0
    have hle : (partsS s l).length ≤ n := by
      have h1 := cutsS_len h0
      have h2 := HF.out.2.2
      unfold partsS
      rw [partsC_len]
      omega
    obtain ⟨S, rfl⟩ : ∃ S : Nat, s = (S : Int) := ⟨s.toNat, by omega⟩
    have hpart : ∀ (i : Nat) (p : List Fct), (partsS S l)[i]? = some p → 1 ≤ p.length ∧ pgs[i]? = some (pageOf S p) ∧ getS (pageOf S p) = (2, bodyB (p.map chgOf), 0) ∧ (pageOf S p).length = S ∧ getRecS (bodyB (p.map chgOf)) = (p.map chgOf, 0) ∧
        applyF ((partsS S l).take i).flatten (p.map chgOf) = ((partsS S l).take (i + 1)).flatten ∧ ((partsS S l).take i).flatten.length + p.length ≤ n ∧ (bodyB (p.map chgOf)).length ≤ 256 := by
      intro i p hp
      obtain ⟨x, e1, e2, e3, _⟩ := hat i p hp
      obtain ⟨g1, g2, g3, g4, g5⟩ := part_page hsz hgood.1 e2
      rw [← e3] at g1 g3 g4 g5
      have ha := parts_apply hgood.2 hfl hp
      have hN := HF.out.2.2
      refine ⟨by have := g1.1; simpa using this, by rw [hpg, List.getElem?_map, hp]; rfl, g3, by simpa using g4, g5, ha.1, by omega, ?_⟩
      have e4 := e2.2.2.2
      rw [← e3] at e4
      rw [bodyB_cost p (fun f hf => hgood.1 f (by rw [e3] at hf; exact part_mem hf))]
      omega
    have hpl : pgs.length = (partsS S l).length := by rw [hpg, List.length_map]
    rw [← hpl] at hle
    obtain ⟨M, hM⟩ : ∃ M, pgs.length = M := ⟨_, rfl⟩
    have HP := Lib.hid (And.intro hpart (And.intro hfl (And.intro hpl hM)))
    rw [hM] at hle
    clear hpart hpl hM hfl hat hgood h0 hpg hr
    generalize partsS (S : Int) l = ps at *
    go_enter Try.func3, Try.ntmps3
    go_wp2_with (go_at_call 8; refine HC.out.mono ?_; rintro e w1 ⟨v1, rfl, ho1, hb1⟩; dsimp only at ho1 ⊢; rw [HP.out.2.2.2] at ho1; obtain ⟨A1, c1, rfl, hin1, hl1, hm1, _⟩ := OwnL.listIn pg_len ho1; have H1 := Lib.hid (And.intro hin1 hb1); clear ho1 hin1 hb1)
    go_loopg [7, 8] M (fun k v i wr => ∃ j : Nat, j + k = M ∧ i = .int .i64 j ∧ OwnF wr w.heap.size v (ps.take j).flatten.length (ps.take j).flatten ∧ Below w1.heap.size w1 wr)
    case atStart => exact ⟨0, by omega, rfl, OwnL.nil _ _ _, Below.refl _ _⟩
    case round =>
      obtain ⟨j, hj, rfl, ho, hb⟩ := hrel
      have HX := Lib.hid (And.intro hj (And.intro ho (And.intro hb (below_then H1.out.2 H1.out.2.size hb))))
      clear hj ho hb
      by_cases hlt : j < M
      · obtain ⟨p, hp⟩ : ∃ p, ps[j]? = some p := ⟨_, List.getElem?_eq_getElem (by have := HP.out.2.2; omega)⟩
        obtain ⟨g1, g2, g3, g4, g5, g6, g7, g8⟩ := HP.out.1 j p hp
        obtain ⟨ad1, B, dd, hA1, hrv, hl, hm, hblk, hc⟩ := PgsIn.at_ H1.out.1 g2
        subst hA1
        have hcc : wr.cell? (ad1.add j) = some (.slice B (pageOf S p).length dd) := (World.cell?_of_block (HX.out.2.2.1.block _ hblk)).trans hc
        rw [g4] at hcc hl
        have HG := Lib.hid (And.intro (hrv.below HX.out.2.2.1) (And.intro g3 (And.intro g4 (And.intro g5 (And.intro g6 g1)))))
        have HPP := Lib.hid hp
        clear hrv g2 g3 g4 g5 g6 hblk hc hp
        have hjM : (j : Int) < (M : Int) := by omega
        go_wp2_with fail
        refine (getPage_at wr B S dd _ HG.out.2.2.1 HG.out.1 hl hm).mono ?_
        rintro e w2 ⟨v2, rfl, ho2, hb2⟩
        rw [HG.out.2.1] at ho2 ⊢
        dsimp only at ho2 ⊢
        obtain ⟨A2, c2, rfl, hrv2, hl2, hm2, _⟩ := ho2.slice
        have HB2 := Lib.hid (And.intro hrv2 (And.intro hb2 (And.intro HG.out.2.2.2.1 (Nat.le_trans g8 (by decide : 256 ≤ 140737488355328)))))
        have HC2 := Lib.hid (World.cell?_of_block (hb2.block _ (World.block_lt_of_cell? wr _ hcc)) |>.trans hcc)
        clear ho2 hrv2 hb2 hcc hl2 g8
        generalize bodyB (p.map chgOf) = bd at *
        go_wp2_with fail
        refine (recGet_any w2 A2 c2 bd HB2.out.1 HB2.out.2.2.2).mono ?_
        rintro e w3 ⟨v3, rfl, ho3, hb3⟩
        rw [HB2.out.2.2.1] at ho3 ⊢
        dsimp only at ho3 ⊢
        have hpl : (p.map chgOf).length = p.length := List.length_map _
        rw [hpl] at ho3
        obtain ⟨A3, c3, rfl, hin3, hl3, hm3, _⟩ := OwnL.listIn chg_len ho3
        have hcc : w3.cell? (ad1.add j) = some (.slice B S dd) := (World.cell?_of_block (hb3.block _ (World.block_lt_of_cell? w2 _ HC2.out))).trans HC2.out
        have hwr3 : Below wr.heap.size wr w3 := below_then HB2.out.2.1 HB2.out.2.1.size hb3
        have hvb : ∀ c ∈ p.map chgOf, c.val.length ≤ 140737488351232 := by
          intro c hc
          obtain ⟨f, hf, rfl⟩ := List.mem_map.1 hc
          obtain ⟨k, hk⟩ := List.getElem?_of_mem hf
          refine HF.out.2.1 f ?_
          rw [← HP.out.2.1]
          exact List.mem_flatten.2 ⟨p, List.mem_of_getElem? HPP.out, hf⟩
        have hx3 := OwnL.below HX.out.2.1 hwr3
        obtain ⟨A7, c7, rfl, hin7, hl7, hm7, _⟩ := OwnL.listIn fct_len hx3
        have H3 := Lib.hid (And.intro hin3 (And.intro hin7 (And.intro hvb (And.intro (below_then HX.out.2.2.1 HX.out.2.2.1.size hwr3) (And.intro (below_then HX.out.2.2.2 HX.out.2.2.2.size hwr3) HG.out.2.2.2.2.1)))))
        clear hin3 hin7 hvb hwr3 hx3 ho3 hb3 hpl
        obtain ⟨P, hP⟩ : ∃ P, p.length = P := ⟨_, rfl⟩
        rw [hP] at g1 g7 H3 ⊢
        clear hP
        have hP0 : ((P : Int) == 0) = false := beq_eq_false_iff_ne.2 (by omega)
        generalize p.map chgOf = cs at *
        generalize (ps.take j).flatten.length = N at *
        generalize (ps.take j).flatten = acc at *
        go_wp2_with fail
        refine (dApply_any w3 A7 N c7 acc H3.out.2.1 A3 P c3 cs H3.out.1 H3.out.2.2.1 (by omega)).mono ?_
        rintro e w4 ⟨v4, rfl, ho4, hb4⟩
        rw [H3.out.2.2.2.2.2] at ho4
        have H4 := Lib.hid (And.intro (ho4.lower H3.out.2.2.2.2.1.size) (below_then H3.out.2.2.2.1 H3.out.2.2.2.1.size hb4))
        clear ho4 hb4 hcc
        go_wp2_with fail
        go_roundg (M - (j + 1))
        case measure => have := HX.out.1; omega
        case rel => exact ⟨j + 1, by have := HX.out.1; omega, by go_num, H4.out.1, H4.out.2⟩
      · obtain rfl : j = M := by have := HX.out.1; omega
        have hge : ¬ (j : Int) < (j : Int) := by omega
        have ho := HX.out.2.1
        rw [List.take_of_length_le (by have := HP.out.2.2; omega), HP.out.2.1, HF.out.2.2] at ho
        obtain ⟨A7, c7, rfl, hin7, hl7, hm7, _⟩ := OwnL.listIn fct_len ho
        have hin := ListIn.below fct_len (by decide) HF.out.1 HX.out.2.2.2
        have HE := Lib.hid (And.intro hin7 hin)
        clear ho hin7 hin
        have hlei : (j : Int) ≤ (n : Int) := by omega
        go_wp2_with fail
        refine (dFacts_any wr A7 n c7 l HE.out.1 A n d l HE.out.2 hn).mono ?_
        rintro e w4 ⟨rfl, hd4⟩
        rw [decide_eq_true (rfl : l = l)]
        have H4 := Lib.hid (below_then HX.out.2.2.2 HX.out.2.2.2.size (hd4.below _))
        clear hd4
        go_wp2_with (first
          | (go_at_call 9; refine (works13_any _).mono ?_; rintro e w5 ⟨rfl, hb5⟩; have H5 := Lib.hid (below_then H4.out H4.out.size hb5); clear hb5))
        go_ret
        exact ⟨rfl, H5.out⟩
  · have hp0 : pgs = [] := by
      unfold pagesS at hr
      split at hr
      · exact (Prod.mk.inj hr).1.symm
      · exact absurd (Prod.mk.inj hr).2.symm he
    have hcode : e ≤ 3 := by
      have := cutsS_code s l
      unfold pagesS at hr
      split at hr
      · have := (Prod.mk.inj hr).2; omega
      · exact absurd (Prod.mk.inj hr).2.symm he
    subst hp0
    have hne : ((e : Int) != 0) = true := by simp; omega
    clear hr he HF
    go_enter Try.func3, Try.ntmps3
    go_wp2_with (first
      | (go_at_call 8; refine HC.out.mono ?_; rintro e w1 ⟨v1, rfl, ho1, hb1⟩; dsimp only at ho1 ⊢; obtain ⟨A1, c1, rfl, _, _, _, _⟩ := OwnL.listIn pg_len ho1; dsimp only [List.length_nil]; have H1 := Lib.hid hb1; clear ho1 hb1)
      | (go_at_call 9; refine (works13_any _).mono ?_; rintro e w5 ⟨rfl, hb5⟩; have H5 := Lib.hid (below_then H1.out H1.out.size hb5); clear hb5))
    go_ret
    exact ⟨rfl, H5.out⟩
end Go.Proofs.Ytckpgbkabbddnaa
