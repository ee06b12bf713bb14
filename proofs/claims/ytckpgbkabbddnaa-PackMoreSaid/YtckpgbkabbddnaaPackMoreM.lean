import Derived.Test.YtckpgbkabbddnaaMPages
import Derived.Test.YtckpgbkabbddnaaPackMM
import Derived.Test.YtckpgbkabbddnaaFactEM
import Derived.Test.YtckpgbkabbddnaaSameKM
set_option linter.unusedVariables false
set_option linter.unusedSimpArgs false
/- The walk of PackMore (layer 13). -/
namespace Go.Proofs.Ytckpgbkabbddnaa
open Go.RowKit

theorem ListIn.pre {α : Type} {cell : α → Value → List Value} {val : α → List UInt8} {ok : α → Prop} {sz : Nat} {w : World} {A : Option Addr} {n : Nat} {l : List α} (h : ListIn cell val ok sz w A n l) (k : Nat) (hk : k ≤ n) : ListIn cell val ok sz w A k (l.take k) := by
  refine ⟨by rw [List.length_take, h.1]; omega, fun i x hx => ?_⟩
  rw [List.getElem?_take] at hx
  split at hx
  · exact h.2 i x hx
  · cases hx
theorem same_eq (A B : Option Addr) (c d n : Nat) (xs : List UInt8) (hn : xs.length = n) (w : World) (ha : RV w A (bv xs)) (hb : RV w B (bv xs)) (lx : n ≤ maxLen) :
    Calls Try.prog 19 #[.slice A n c, .slice B n d] w fun e w' => e = .returned (.bool true) ∧ Drawn w w' := by
  subst hn
  have := same_any A B c d xs xs w ha hb lx lx
  rw [decide_eq_true rfl] at this
  exact this

set_option maxRecDepth 100000 in
set_option maxHeartbeats 4000000 in
theorem walkPackMore (w : World) (s : Int) (hs : (Lit.int .i64 s).wf = true) (A : Option Addr) (d : Nat) (l : List Fct) (h : FctsIn w A l.length l) (hld : l.length ≤ d) (hv : ∀ f ∈ l, f.val.length ≤ 140737488351232) (hn : l.length * 64 ≤ 140737488351232) (x : Int) (hx : (Lit.int .u8 x).wf = true) :
    Calls Try.prog 6 #[.int .i64 s, .slice A l.length d, .int .u8 x] w fun e w' => e = .returned (.bool true) ∧ Below w.heap.size w w' := by
  clear hs
  obtain ⟨t, rfl⟩ := u8_byte hx
  clear hx
  have ht := t.toNat_lt
  generalize t.toNat = x at *
  obtain ⟨n, hN⟩ : ∃ n, l.length = n := ⟨_, rfl⟩
  rw [hN] at h hn hld ⊢
  have HC := Lib.hid (pages_any w s A n d l h hv hn)
  have HF := Lib.hid (And.intro h (And.intro hv hN))
  clear h hv hN
  obtain ⟨⟨pgs, e⟩, hr⟩ : ∃ r, pagesS s l = r := ⟨_, rfl⟩
  rw [hr] at HC
  by_cases he : e = 0
  · subst he
    have h0 : (cutsS s l).2 = 0 := by
      refine Classical.byContradiction fun h => h ?_
      unfold pagesS at hr
      rw [if_pos h] at hr
      exact (Prod.mk.inj hr).2
    have hMn : pgs.length ≤ n := by
      have h1 := cutsS_len h0
      have h2 := HF.out.2.2
      have h3 : pgs = (partsS s l).map (pageOf s) := by
        unfold pagesS at hr
        rw [if_neg (fun h => h h0)] at hr
        exact (Prod.mk.inj hr).1.symm
      rw [h3, List.length_map]
      unfold partsS
      rw [partsC_len]
      omega
    obtain ⟨M, hM⟩ : ∃ M, pgs.length = M := ⟨_, rfl⟩
    rw [hM] at hMn
    rcases Nat.eq_zero_or_pos n with hn0 | hn0
    · have hn1 : ((n : Int) == 0) = true := by rw [hn0]; rfl
      have HM := Lib.hid hM
      have HN := Lib.hid hn0
      clear hn0 hM hr h0 HF
      go_enter Try.func6, Try.ntmps6
      go_wp2_with (first
        | (go_at_call 8; refine HC.out.mono ?_; rintro e w1 ⟨v1, rfl, ho1, hb1⟩; dsimp only at ho1 ⊢; rw [HM.out] at ho1; obtain ⟨A1, c1, rfl, hin1, hl1, hm1, _⟩ := OwnL.listIn pg_len ho1; have H1 := Lib.hid (And.intro hin1 hb1); clear ho1 hin1 hb1)
        | (go_at_call 9; refine (works13_any _).mono ?_; rintro e w5 ⟨rfl, hb5⟩; have H5 := Lib.hid (below_then H1.out.2 H1.out.2.size hb5); clear hb5))
      go_ret
      exact ⟨rfl, H5.out⟩
    · have hn1 : ((n : Int) == 0) = false := beq_eq_false_iff_ne.2 (by omega)
      have hpt := pages_take h0 (x % n)
      obtain ⟨⟨qgs, e2⟩, hr2⟩ : ∃ r, pagesS s (l.take (x % n)) = r := ⟨_, rfl⟩
      rw [hr, hr2] at hpt
      dsimp only at hpt
      obtain ⟨hp1, hp2, hp3⟩ := hpt
      subst hp1
      obtain ⟨K, hK⟩ : ∃ K, qgs.length = K := ⟨_, rfl⟩
      rw [hM, hK] at hp2
      rw [hK] at hp3
      have hmod : x % n < n := Nat.mod_lt _ hn0
      have hrem : Int.tmod (x : Int) (n : Int) = ((x % n : Nat) : Int) := by rw [Int.tmod_eq_emod_of_nonneg (by omega)]; simp
      have hmodI : ((x % n : Nat) : Int) < (n : Int) := by omega
      have hwrap : IntKind.i64.wrap ((x % n : Nat) : Int) = ((x % n : Nat) : Int) := IntWalk.i64_in _ (by omega)
      have hwx : IntKind.i64.wrap (x : Int) = (x : Int) := IntWalk.i64_in _ (by omega)
      have hne0 : ¬ (n : Int) = 0 := by omega
      have HQ := fun (w1 : World) (hb1 : Below w.heap.size w w1) (dd : Nat) => pages_any w1 s A (x % n) dd (l.take (x % n)) (ListIn.pre (ListIn.below fct_len (by decide) HF.out.1 hb1) _ (Nat.le_of_lt hmod)) (fun f hf => HF.out.2.1 f (List.mem_of_mem_take hf)) (by omega)
      rw [hr2] at HQ
      have HQ := Lib.hid HQ
      have HM := Lib.hid (And.intro hM (And.intro hK hp3))
      clear hM hK hp3 hr hr2 h0
      generalize hkk : x % n = k at *
      clear hkk
      have hK1 : decide ((M : Int) < (K : Int)) = false := decide_eq_false (by omega)
      have hK2 : decide (M < K) = false := decide_eq_false (by omega)
      have hkd : k ≤ d := by omega
      have hkdI : (k : Int) ≤ (d : Int) := by omega
      go_enter Try.func6, Try.ntmps6
      go_wp2_with fail
      refine HC.out.mono ?_
      rintro e w1 ⟨v1, rfl, ho1, hb1⟩
      dsimp only at ho1 ⊢
      rw [HM.out.1] at ho1
      obtain ⟨A1, c1, rfl, hin1, hl1, hm1, _⟩ := OwnL.listIn pg_len ho1
      have H1 := Lib.hid (And.intro hin1 hb1)
      clear ho1 hin1 hb1
      go_wp2_with fail
      refine (HQ.out w1 H1.out.2 k).mono ?_
      rintro e w2 ⟨v2, rfl, ho2, hb2⟩
      dsimp only at ho2 ⊢
      rw [HM.out.2.1] at ho2
      obtain ⟨A2, c2, rfl, hin2, hl2, hm2, _⟩ := OwnL.listIn pg_len ho2
      have H2 := Lib.hid (And.intro (ListIn.below pg_len (by decide) H1.out.1 hb2) (And.intro hin2 (below_then H1.out.2 H1.out.2.size hb2)))
      clear ho2 hin2 hb2
      go_wp2_with fail
      go_loopg [12] K (fun k i wr => ∃ j : Nat, j + k = K ∧ i = .int .i64 j ∧ Below w2.heap.size w2 wr)
      case atStart => exact ⟨0, by omega, rfl, Below.refl _ _⟩
      case round =>
        obtain ⟨j, hj, rfl, hb⟩ := hrel
        have HX := Lib.hid (And.intro hj (And.intro hb (below_then H2.out.2.2 H2.out.2.2.size hb)))
        clear hj hb
        by_cases hlt : j + 1 < K
        · obtain ⟨pg, hp⟩ : ∃ pg, qgs[j]? = some pg := ⟨_, List.getElem?_eq_getElem (by have := HM.out.2.1; omega)⟩
          have hp1 := HM.out.2.2 j hlt
          rw [hp] at hp1
          obtain ⟨ad1, B1, d1, hA1, hrv1, _, hz1, hblk1, hc1⟩ := PgsIn.at_ H2.out.1 hp1.symm
          obtain ⟨ad2, B2, d2, hA2, hrv2, hy2, hz2, hblk2, hc2⟩ := PgsIn.at_ H2.out.2.1 hp
          subst hA1 hA2
          have y1 : wr.cell? (ad1.add j) = some (.slice B1 pg.length d1) := (World.cell?_of_block (HX.out.2.1.block _ hblk1)).trans hc1
          have y2 : wr.cell? (ad2.add j) = some (.slice B2 pg.length d2) := (World.cell?_of_block (HX.out.2.1.block _ hblk2)).trans hc2
          obtain ⟨N, hN⟩ : ∃ N, pg.length = N := ⟨_, rfl⟩
          rw [hN] at y1 y2 hy2
          have HC := Lib.hid (fun w' (hd : Drawn wr w') => same_eq B1 B2 d1 d2 N pg hN w' ((hrv1.below HX.out.2.1).below (hd.below _)) ((hrv2.below HX.out.2.1).below (hd.below _)) (Nat.le_trans hy2 hz2))
          have hjK : (j : Int) + 1 < (K : Int) := by omega
          have hjK' : (j : Int) < (K : Int) := by omega
          have hjM : (j : Int) < (M : Int) := by omega
          clear hrv1 hrv2 hblk1 hblk2 hc1 hc2 hp hp1 hN
          go_wp2_with fail
          go_quiet ((go_at_call 19; first | exact quiet_drawn (HC.out _ (Drawn.mk wr _)) | exact quiet_drawn2 (HC.out _ (Drawn.mk wr _))))
          have hbd := below_drewN HX.out.2.1 nq
          generalize wr.drewN nq = w3 at *
          have HD := Lib.hid hbd
          clear hbd
          go_wp2_with fail
          go_roundg (K - (j + 1))
          case measure => have := HX.out.1; omega
          case rel => exact ⟨j + 1, by have := HX.out.1; omega, by go_num, HD.out⟩
        · have hge : ¬ (j : Int) + 1 < (K : Int) := by omega
          have hjle : j ≤ K := by have := HX.out.1; omega
          go_wp2_with (go_at_call 9; refine (works13_any _).mono ?_; rintro e w5 ⟨rfl, hb5⟩; have H5 := Lib.hid (below_then HX.out.2.2 HX.out.2.2.size hb5); clear hb5)
          go_ret
          exact ⟨rfl, H5.out⟩
  · have hcode : e ≤ 3 := by
      have := cutsS_code s l
      unfold pagesS at hr
      split at hr
      · have := (Prod.mk.inj hr).2; omega
      · exact absurd (Prod.mk.inj hr).2.symm he
    have hne : ((e : Int) != 0) = true := by simp; omega
    clear hr he HF
    go_enter Try.func6, Try.ntmps6
    go_wp2_with (first
      | (go_at_call 8; refine HC.out.mono ?_; rintro e w1 ⟨v1, rfl, ho1, hb1⟩; dsimp only at ho1 ⊢; obtain ⟨A1, c1, rfl, _, _, _, _⟩ := OwnL.listIn pg_len ho1; have H1 := Lib.hid hb1; clear ho1 hb1)
      | (go_at_call 9; refine (works13_any _).mono ?_; rintro e w5 ⟨rfl, hb5⟩; have H5 := Lib.hid (below_then H1.out H1.out.size hb5); clear hb5))
    go_ret
    exact ⟨rfl, H5.out⟩
end Go.Proofs.Ytckpgbkabbddnaa
