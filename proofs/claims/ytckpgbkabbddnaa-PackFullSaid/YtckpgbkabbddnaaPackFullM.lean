import Derived.Test.YtckpgbkabbddnaaMPages
import Derived.Test.YtckpgbkabbddnaaSealGM
set_option linter.unusedVariables false
set_option linter.unusedSimpArgs false
/- The walk of PackFull (layer 13). -/
namespace Go.Proofs.Ytckpgbkabbddnaa
open Go.RowKit

theorem getPage_at (w : World) (A : Option Addr) (n c : Nat) (xs : List UInt8) (hn : xs.length = n) (hr : RV w A (bv xs)) (hlc : n ≤ c) (hc : c ≤ maxLen) :
    Calls Try.prog 10 #[.slice A n c] w (GetPageEnd w (getS xs)) := by
  subst hn
  exact getPage_any w A c xs hr hlc hc


theorem recGet_at (w : World) (A : Option Addr) (n c : Nat) (xs : List UInt8) (hn : xs.length = n) (hr : RV w A (bv xs)) (hx : n ≤ 140737488355328) :
    Calls Try.prog 11 #[.slice A n c] w (RecGetEnd w (getRecS xs)) := by
  subst hn
  exact recGet_any w A c xs hr hx
set_option maxRecDepth 100000 in
set_option maxHeartbeats 4000000 in
theorem walkPackFull (w : World) (s : Int) (hs : (Lit.int .i64 s).wf = true) (A : Option Addr) (d : Nat) (l : List Fct) (h : FctsIn w A l.length l) (hv : ∀ f ∈ l, f.val.length ≤ 140737488351232) (hn : l.length * 64 ≤ 140737488351232) :
    Calls Try.prog 4 #[.int .i64 s, .slice A l.length d] w fun e w' => e = .returned (.bool true) ∧ Below w.heap.size w w' := by
  clear hs
  obtain ⟨n, hN⟩ : ∃ n, l.length = n := ⟨_, rfl⟩
  rw [hN] at h hn ⊢
  have HC := Lib.hid (pages_any w s A n d l h hv hn)
  have HF := Lib.hid (And.intro h (And.intro hv hN))
  clear h hv hN
  obtain ⟨⟨pgs, e⟩, hr⟩ : ∃ r, pagesS s l = r := ⟨_, rfl⟩
  rw [hr] at HC
  by_cases he : e = 0
  · subst he
    have h0 : (cutsS s l).2 = 0 := by
      refine Classical.byContradiction fun h => h ?_
      unfold pagesS at hr
      rw [if_pos h] at hr
      exact (Prod.mk.inj hr).2
    have hpg : pgs = (partsS s l).map (pageOf s) := by
      unfold pagesS at hr
      rw [if_neg (fun h => h h0)] at hr
      injection hr with h1 h2
      exact h1.symm
    obtain ⟨hsz, hgood, _, _⟩ := cutsS_ok h0
    have hat := cutsS_at h0
    have hfl := partsS_flat h0
    have hle : (partsS s l).length ≤ n := by
      have h1 := cutsS_len h0
      have h2 := HF.out.2.2
      unfold partsS
      rw [partsC_len]
      omega
    obtain ⟨S, rfl⟩ : ∃ S : Nat, s = (S : Int) := ⟨s.toNat, by omega⟩
    have hpart : ∀ (i : Nat) (p : List Fct), (partsS S l)[i]? = some p → pgs[i]? = some (pageOf S p) ∧ getS (pageOf S p) = (2, bodyB (p.map chgOf), 0) ∧ (pageOf S p).length = S ∧ getRecS (bodyB (p.map chgOf)) = (p.map chgOf, 0) ∧
        (bodyB (p.map chgOf)).length = 1 + costSum p ∧ costSum p ≤ 250 ∧ p.length ≤ 255 ∧ ((partsS S l).take (i + 1)).flatten.length = ((partsS S l).take i).flatten.length + p.length ∧ ((partsS S l).take (i + 1)).flatten.length ≤ n ∧
        (i + 1 < pgs.length → ∃ f, l[((partsS S l).take (i + 1)).flatten.length]? = some f ∧ fOk f ∧ (p.length = 255 ∨ S - 6 < costSum p + costS f)) := by
      intro i p hp
      obtain ⟨x, e1, e2, e3, e4⟩ := hat i p hp
      obtain ⟨g1, g2, g3, g4, g5⟩ := part_page hsz hgood.1 e2
      have hpe := parts_end h0 hp
      have hN := HF.out.2.2
      have hplen : p.length = (cutsS (S : Int) l).1.getD (i + 1) l.length - x := by rw [e3]; exact part_len e2.2.1
      have h255 := e2.2.2.1
      have hsum := e2.2.2.2
      rw [← e3] at g1 g3 g4 g5 hsum
      refine ⟨by rw [hpg, List.getElem?_map, hp]; rfl, g3, by simpa using g4, g5, bodyB_cost p (fun f hf => hgood.1 f (by rw [e3] at hf; exact part_mem hf)), by omega, by omega, hpe.2, by have := e2.2.1; omega, fun hlt => ?_⟩
      have hcl : (cutsS (S : Int) l).1.length = pgs.length := by rw [hpg, List.length_map]; unfold partsS; rw [partsC_len]
      obtain ⟨h5, h6⟩ := e4 (by omega)
      rw [hpe.1]
      rcases h6 with h6 | ⟨f, h6, h7⟩
      · exact ⟨l[(cutsS (S : Int) l).1.getD (i + 1) l.length], List.getElem?_eq_getElem h5, hgood.1 _ (List.getElem_mem h5), .inl (by omega)⟩
      · rw [← e3] at h7
        exact ⟨f, h6, hgood.1 f (List.mem_of_getElem? h6), .inr (by simpa using h7)⟩
    have hpl : pgs.length = (partsS S l).length := by rw [hpg, List.length_map]
    rw [← hpl] at hle
    obtain ⟨M, hM⟩ : ∃ M, pgs.length = M := ⟨_, rfl⟩
    have HP := Lib.hid (And.intro hpart (And.intro hfl (And.intro hpl hM)))
    rw [hM] at hle
    clear hpart hpl hM hfl hat hgood h0 hpg hr
    generalize partsS (S : Int) l = ps at *
    go_enter Try.func4, Try.ntmps4
    go_wp2_with (go_at_call 8; refine HC.out.mono ?_; rintro e w1 ⟨v1, rfl, ho1, hb1⟩; dsimp only at ho1 ⊢; rw [HP.out.2.2.2] at ho1; obtain ⟨A1, c1, rfl, hin1, hl1, hm1, _⟩ := OwnL.listIn pg_len ho1; have H1 := Lib.hid (And.intro hin1 hb1); clear ho1 hin1 hb1)
    go_loopg [7, 8] M (fun k v i wr => ∃ j : Nat, j + k = M ∧ i = .int .i64 j ∧ v = .int .i64 ((ps.take j).flatten.length : Int) ∧ Below w1.heap.size w1 wr)
    case atStart => exact ⟨0, by omega, rfl, rfl, Below.refl _ _⟩
    case round =>
      obtain ⟨j, hj, rfl, rfl, hb⟩ := hrel
      have HX := Lib.hid (And.intro hj (And.intro hb (below_then H1.out.2 H1.out.2.size hb)))
      clear hj hb
      by_cases hlt : j < M
      · obtain ⟨p, hp⟩ : ∃ p, ps[j]? = some p := ⟨_, List.getElem?_eq_getElem (by have := HP.out.2.2; omega)⟩
        obtain ⟨g2, g3, g4, g5, g6, g7, g8, g9, g10, g11⟩ := HP.out.1 j p hp
        obtain ⟨ad1, B, dd, hA1, hrv, hl, hm, hblk, hc⟩ := PgsIn.at_ H1.out.1 g2
        subst hA1
        have hcc : wr.cell? (ad1.add j) = some (.slice B (pageOf S p).length dd) := (World.cell?_of_block (HX.out.2.1.block _ hblk)).trans hc
        rw [g4] at hcc hl
        rw [HP.out.2.2.2] at g11
        rw [g9] at g10 g11
        have HG := Lib.hid (And.intro (hrv.below HX.out.2.1) (And.intro g3 (And.intro g4 (And.intro g5 (And.intro g6 (And.intro g11 g9))))))
        clear hrv g2 g3 g4 g5 hblk hc hp g11 g9
        obtain ⟨N, hN⟩ : ∃ N, (ps.take j).flatten.length = N := ⟨_, rfl⟩
        rw [hN] at g10 HG ⊢
        clear hN
        have hjM : (j : Int) < (M : Int) := by omega
        obtain ⟨P, hP⟩ : ∃ P, p.length = P := ⟨_, rfl⟩
        rw [hP] at g8 g10 HG
        have HPL := Lib.hid hP
        clear hP
        generalize bodyB (p.map chgOf) = bd at *
        generalize costSum p = cs at *
        have hNP : decide ((n : Int) < (N : Int) + (P : Int)) = false := decide_eq_false (by omega)
        have hNP2 : decide (n < N + P) = false := decide_eq_false (by omega)
        have tail : ∀ (K : World → Prop), True := fun _ => trivial
        clear tail
        go_wp2_with fail
        refine (getPage_at wr B S dd _ HG.out.2.2.1 HG.out.1 hl hm).mono ?_
        rintro e w2 ⟨v2, rfl, ho2, hb2⟩
        rw [HG.out.2.1] at ho2 ⊢
        dsimp only at ho2 ⊢
        obtain ⟨A2, c2, rfl, hrv2, hl2, hm2, _⟩ := ho2.slice
        have HB2 := Lib.hid (And.intro hrv2 (And.intro hb2 (And.intro HG.out.2.2.2.1 (show bd.length ≤ 140737488355328 by omega))))
        rw [g6] at hl2 ⊢
        clear ho2 hrv2 hb2 hcc hl2
        go_wp2_with fail
        refine (recGet_at w2 A2 (1 + cs) c2 bd g6 HB2.out.1 (by omega)).mono ?_
        rintro e w3 ⟨v3, rfl, ho3, hb3⟩
        rw [HB2.out.2.2.1] at ho3 ⊢
        dsimp only at ho3 ⊢
        have hpl : (p.map chgOf).length = P := by rw [List.length_map]; exact HPL.out
        rw [hpl] at ho3
        obtain ⟨A3, c3, rfl, _, hl3, hm3, _⟩ := OwnL.listIn chg_len ho3
        have hwr3 : Below wr.heap.size wr w3 := below_then HB2.out.2.1 HB2.out.2.1.size hb3
        have H3 := Lib.hid (And.intro (below_then HX.out.2.1 HX.out.2.1.size hwr3) (below_then HX.out.2.2 HX.out.2.2.size hwr3))
        clear hwr3 ho3 hb3 hpl
        rcases Nat.lt_or_ge (j + 1) M with hnext | hnext
        · have hnI : decide ((j : Int) + 1 < (M : Int)) = true := decide_eq_true (by omega)
          have hnI2 : decide (j + 1 < M) = true := decide_eq_true (by omega)
          obtain ⟨f, hf, hfok, hfull⟩ := HG.out.2.2.2.2.2.1 hnext
          have hNn : N + P < n := by have := (List.getElem?_eq_some_iff.1 hf).1; have := HF.out.2.2; omega
          have hge : decide ((n : Int) ≤ (N : Int) + (P : Int)) = false := decide_eq_false (by omega)
          have hge2 : decide (n ≤ N + P) = false := decide_eq_false (by omega)
          rcases Nat.lt_or_ge P 255 with hP | hP
          · have hPI : decide ((P : Int) < 255) = true := decide_eq_true (by omega)
            have hPI2 : decide (P < 255) = true := decide_eq_true (by omega)
            obtain ⟨okf, ad, B1, d1, hA, hr1, l1, l2, hblk, x0, x1, x2, x3, x4⟩ := FctsIn.at_ HF.out.1 hf
            subst hA
            have up : ∀ {p : Addr} {u : Value}, w.cell? p = some u → p.block < w.heap.size → w3.cell? p = some u := fun hu hp => (World.cell?_of_block (H3.out.2.block _ hp)).trans hu
            have p0 := up x0 hblk
            have p1 := up x1 hblk
            have p2 := up x2 hblk
            have p3 := up x3 hblk
            have p4 := up x4 hblk
            have HC := Lib.hid (fun w => cost_any w f okf B1 f.val.length d1 rfl (HF.out.2.1 f (List.mem_of_getElem? hf)))
            have hcl := (costS_le hfok).1
            have hcc : S - 6 < cs + costS f := by omega
            clear x0 x1 x2 x3 x4 up hf okf hr1 hfok hfull
            obtain ⟨⟨fi, fa, fs, fc⟩, fv⟩ := f
            dsimp only at p0 p1 p2 p3 p4 HC l1
            generalize costS ⟨⟨fi, fa, fs, fc⟩, fv⟩ = c at *
            generalize fv.length = L at *
            have hle : decide ((1 + (cs : Int)) + (c : Int) ≤ (S : Int) - 5) = false := decide_eq_false (by omega)
            go_wp2_with fail
            refine (HC.out _).mono ?_
            rintro e w4 ⟨rfl, hb4⟩
            have H4 := Lib.hid (below_then H3.out.1 H3.out.1.size hb4)
            clear hb4 p0 p1 p2 p3 p4
            go_wp2_with fail
            go_roundg (M - (j + 1))
            case measure => have := HX.out.1; omega
            case rel => exact ⟨j + 1, by have := HX.out.1; omega, by go_num, by rw [HG.out.2.2.2.2.2.2]; go_num, H4.out⟩
          · have hPI : decide ((P : Int) < 255) = false := decide_eq_false (by omega)
            have hPI2 : decide (P < 255) = false := decide_eq_false (by omega)
            have H5 := Lib.hid H3.out.1
            go_wp2_with fail
            go_roundg (M - (j + 1))
            case measure => have := HX.out.1; omega
            case rel => exact ⟨j + 1, by have := HX.out.1; omega, by go_num, by rw [HG.out.2.2.2.2.2.2]; go_num, H5.out⟩
        · have hnI : decide ((j : Int) + 1 < (M : Int)) = false := decide_eq_false (by omega)
          have hnI2 : decide (j + 1 < M) = false := decide_eq_false (by omega)
          have H5 := Lib.hid H3.out.1
          go_wp2_with fail
          go_roundg (M - (j + 1))
          case measure => have := HX.out.1; omega
          case rel => exact ⟨j + 1, by have := HX.out.1; omega, by go_num, by rw [HG.out.2.2.2.2.2.2]; go_num, H5.out⟩
      · obtain rfl : j = M := by have := HX.out.1; omega
        have hge : ¬ (j : Int) < (j : Int) := by omega
        have hfl : (ps.take j).flatten.length = n := by
          rw [List.take_of_length_le (by have := HP.out.2.2; omega), HP.out.2.1, HF.out.2.2]
        rw [hfl]
        clear hfl
        go_wp2_with (go_at_call 9; refine (works13_any _).mono ?_; rintro e w5 ⟨rfl, hb5⟩; have H5 := Lib.hid (below_then HX.out.2.2 HX.out.2.2.size hb5); clear hb5)
        go_ret
        exact ⟨rfl, H5.out⟩
  · have hp0 : pgs = [] := by
      unfold pagesS at hr
      split at hr
      · exact (Prod.mk.inj hr).1.symm
      · exact absurd (Prod.mk.inj hr).2.symm he
    have hcode : e ≤ 3 := by
      have := cutsS_code s l
      unfold pagesS at hr
      split at hr
      · have := (Prod.mk.inj hr).2; omega
      · exact absurd (Prod.mk.inj hr).2.symm he
    subst hp0
    have hne : ((e : Int) != 0) = true := by simp; omega
    clear hr he HF
    go_enter Try.func4, Try.ntmps4
    go_wp2_with (first
      | (go_at_call 8; refine HC.out.mono ?_; rintro e w1 ⟨v1, rfl, ho1, hb1⟩; dsimp only at ho1 ⊢; obtain ⟨A1, c1, rfl, _, _, _, _⟩ := OwnL.listIn pg_len ho1; dsimp only [List.length_nil]; have H1 := Lib.hid hb1; clear ho1 hb1)
      | (go_at_call 9; refine (works13_any _).mono ?_; rintro e w5 ⟨rfl, hb5⟩; have H5 := Lib.hid (below_then H1.out H1.out.size hb5); clear hb5))
    go_ret
    exact ⟨rfl, H5.out⟩
end Go.Proofs.Ytckpgbkabbddnaa
