import Derived.StillTailTactics
import Derived.Test.YtlcdabmclcfagaaNdKM
import Derived.Test.YtlcdabmclcfagaaNdBM
import Derived.Test.YtlcdabmclcfagaaNdRM
set_option linter.unusedVariables false
set_option linter.unusedSimpArgs false
/- Layer 3: done: contract. -/
namespace Go.Proofs.Ytlcdabmclcfagaa
open Go.RowKit

def DoneEnd (w : World) (F : Nat → Prop) (a : Nat) (r : Chp × Nat) (e : Ending) (w' : World) : Prop :=
  e = .returned (.int .i64 (r.2 : Int)) ∧ PC w' F a r.1 ∧ Tch F w w'
set_option maxRecDepth 100000 in
set_option maxHeartbeats 4000000 in
theorem done_pc {w : World} {F : Nat → Prop} {a : Nat} {L : Lay} {c : Chp} (h : PCx w F a L c) {b off n cap : Nat} (hb : b < c.B) (ho : off + n ≤ c.N) (hn : n ≤ cap) (hcap : cap ≤ maxLen) (ws : List UInt8) (hws : ws.length = n) (fid : FuncId) (cs : Array Value)
    (hf : ∀ w', Tch F w w' → ∀ (i : Nat) (x : UInt8), ws[i]? = some x → Calls Try.prog fid (#[.int .i64 (i : Int)] ++ cs) w' fun e w'' => e = .returned (.int .u8 (x.toNat : Int)) ∧ w'' = w')
    (hcf : ∀ args w, (callFunc fid args).run Try.prog w = .ok (.enter fid args) w) :
    Calls Try.prog 37 #[.pointer (some ⟨a, 0, none⟩), .int .i64 (b : Int), .slice (some ⟨L.kr b, off, none⟩) n cap, .func (.func fid) #[] cs] w (DoneEnd w F a (doneS c b (b * c.N + off) ws)) := by
  have HK := Lib.hid (strike_pc h)
  have HCF := Lib.hid hcf
  have HF := Lib.hid hf
  have H := Lib.hid (And.intro h (And.intro hws (And.intro hb ho)))
  have hN := h.ok.n
  have hn8 : n ≤ 8192 := by omega
  have hb64 : b ≤ 64 := by have := h.ok.b2; omega
  obtain ⟨R, hR⟩ : ∃ R, doneS c b (b * c.N + off) ws = R := ⟨_, rfl⟩
  rw [hR]
  have HR := Lib.hid hR
  clear hcf hf h hws hR hN hb ho
  go_enter Try.func37, Try.ntmps37
  go_wp2_with fail
  refine HK.out.mono ?_
  rintro e w1 ⟨p, A', ch', rfl, hpc, hg, hit⟩
  obtain ⟨hs, hhs⟩ : ∃ hs, (strikeS c).1 = hs := ⟨_, rfl⟩
  rw [hhs] at hit
  have H1 := Lib.hid (And.intro hpc (And.intro hg (And.intro hhs hit)))
  clear hpc hg hhs hit
  have hss := strikeS_same c
  have hrow := H1.out.1.row b (by rw [hss.1]; exact H.out.2.2.1)
  have hrw : (strikeS c).2.row b = c.row b := by
    unfold Chp.row Chp.N
    rw [hss.2.2.2.2.1, hss.2.1, hss.2.2.1]
  rw [hrw] at hrow
  have hrl := H.out.1.ok.row_len H.out.2.2.1
  obtain ⟨old, hold⟩ : ∃ old, seg (c.row b) off n = old := ⟨_, rfl⟩
  have hol : old.length = n := by rw [← hold]; exact seg_len (by rw [hrl]; exact H.out.2.2.2)
  have hself : spl (c.row b) off old = c.row b := by rw [← hold]; exact spl_self (by rw [hrl]; exact H.out.2.2.2)
  obtain ⟨mix, hmix⟩ : ∃ mix, mixL hs old ws = mix := ⟨_, rfl⟩
  have hml : mix.length = n := by rw [← hmix, mixL_len (by rw [hol, H.out.2.1]), hol]
  have hmm : mix.length = old.length := by omega
  have hat : ∀ j, j < n → ∃ o x, old[j]? = some o ∧ ws[j]? = some x ∧ mix[j]? = some (mixB (maskAt hs j) o x) ∧ (spl (c.row b) off (upto old mix j) ++ L.tl b)[off + j]? = some o ∧
      (spl (c.row b) off (upto old mix j) ++ L.tl b).set (off + j) (mixB (maskAt hs j) o x) = spl (c.row b) off (upto old mix (j + 1)) ++ L.tl b := by
    intro j hj
    obtain ⟨o, ho⟩ : ∃ o, old[j]? = some o := ⟨_, List.getElem?_eq_getElem (by omega)⟩
    obtain ⟨x, hx⟩ : ∃ x, ws[j]? = some x := ⟨_, List.getElem?_eq_getElem (by have := H.out.2.1; omega)⟩
    have hm : mix[j]? = some (mixB (maskAt hs j) o x) := by rw [← hmix]; exact mixL_get ho hx
    have hul : off + (upto old mix j).length ≤ (c.row b).length := by rw [upto_len hmm, hol, hrl]; exact H.out.2.2.2
    have hsl : (spl (c.row b) off (upto old mix j)).length = (c.row b).length := spl_len hul
    have hlt : off + j < (spl (c.row b) off (upto old mix j)).length := by have := H.out.2.2.2; omega
    refine ⟨o, x, ho, hx, hm, ?_, ?_⟩
    · rw [List.getElem?_append_left hlt, spl_get hul, if_pos ⟨by omega, by rw [upto_len hmm]; omega⟩, Nat.add_sub_cancel_left, upto_get hmm, if_neg (by omega)]
      exact ho
    · rw [List.set_append_left _ _ hlt, spl_set hul (by rw [upto_len hmm]; omega), upto_set hmm hm]
  have HAT := Lib.hid (And.intro hat (And.intro hself (And.intro hrow (And.intro hmm hol))))
  have hoff2 : off + mix.length ≤ c.N := by rw [hml]; exact H.out.2.2.2
  have hmx : mix = mixL hs (seg c.bytes (b * c.N + off) ws.length) ws := by
    rw [← hmix, ← hold, H.out.2.1, row_seg H.out.1.ok H.out.2.2.1 H.out.2.2.2]
  have hlk : L.kr b < w.heap.size := H.out.1.lt _ (H.out.1.i2 b H.out.2.2.1)
  have hkF : F (L.kr b) := H.out.1.i2 b H.out.2.2.1
  have haF : F a := H.out.1.i1.1
  have hN1 : (strikeS c).2.N = c.N := by unfold Chp.N; rw [hss.2.1, hss.2.2.1]
  have hfin : ∀ wr, RowB 5 wr (L.kr b) (spl (c.row b) off (upto old mix n) ++ L.tl b) → w1.grownBy wr (some (L.kr b)) →
      PCx wr F a {L with A := A', ch := ch'} {(strikeS c).2 with bytes := spl c.bytes (b * c.N + off) mix} ∧ Tch F w wr := by
    intro wr hr hg
    have e : upto old mix n = mix := by rw [← hol]; exact upto_all hmm
    rw [e] at hr
    have h2 := H1.out.1.rowset hg.size (b := b) (off := off) (m := mix) (by rw [hss.1]; exact H.out.2.2.1) (by rw [hN1]; exact hoff2) (grown_ne hg) (by rw [hrw]; exact hr)
    rw [hss.2.2.2.2.1, hN1] at h2
    refine ⟨h2, (Tch.of_grown (F := F) H1.out.2.1 (fun k e _ => ?_)).then (Tch.of_grown (F := F) hg (fun k e _ => ?_)) (fun _ _ h => h)⟩
    · injection e with e
      rw [← e]
      exact haF
    · injection e with e
      rw [← e]
      exact hkF
  have HFIN := Lib.hid (And.intro hfin (And.intro hmx hlk))
  have htch : ∀ wr, w1.grownBy wr (some (L.kr b)) → Tch F w wr := by
    intro wr hg
    refine (Tch.of_grown (F := F) H1.out.2.1 (fun k e _ => ?_)).then (Tch.of_grown (F := F) hg (fun k e _ => ?_)) (fun _ _ h => h)
    · injection e with e
      rw [← e]
      exact haF
    · injection e with e
      rw [← e]
      exact hkF
  have HTC := Lib.hid htch
  clear hat hself hrow hmm hol hml hmix hold hrl hrw hss hoff2 hmx hlk hkF haF hN1 hfin htch
  cases hs with
  | none =>
    obtain rfl : p = none := H1.out.2.2.2
    go_wp2_with fail
    go_loopg [17] n (fun k i wr => ∃ j : Nat, j + k = n ∧ i = .int .i64 j ∧ RowB 5 wr (L.kr b) (spl (c.row b) off (upto old mix j) ++ L.tl b) ∧ w1.grownBy wr (some (L.kr b)))
    case atStart => exact ⟨0, by omega, rfl, by rw [upto_zero, HAT.out.2.1]; exact HAT.out.2.2.1, World.grownBy.refl _ _⟩
    case round =>
      obtain ⟨j, hj, rfl, hrow, hgr⟩ := hrel
      have HX := Lib.hid (And.intro hj (And.intro hrow hgr))
      clear hj hrow hgr
      by_cases hlt : j < n
      · obtain ⟨o, y, ho, hy, hm, hcur, hset⟩ := HAT.out.1 j hlt
        have hjI : (j : Int) < (n : Int) := by omega
        have hbits := mixB_bits (maskAt none j) o y
        rw [show maskAt none j = 255 from rfl] at hbits hset
        have HW := Lib.hid (And.intro HX.out.2.1 HX.out.2.2)
        have hcall : ∀ w', Tch F w w' → Calls Try.prog fid (#[.int .i64 (j : Int)] ++ cs) w' fun e w'' => e = .returned (.int .u8 (y.toNat : Int)) ∧ w'' = w' := fun w' ht => HF.out w' ht j y hy
        have HC := Lib.hid (And.intro hcall (And.intro hset hbits))
        clear ho hy hm hset hbits hcall
        go_wp2_with fail
        have c0 : wr.cell? ⟨L.kr b, off + j, none⟩ = some (.int .u8 (o.toNat : Int)) := HW.out.1.cell hcur
        have f0 : wr.drew.frozen? ⟨L.kr b, off + j, none⟩ = false := HW.out.1.frozen (off + j)
        clear hcur
        refine wp_region_still_tail 15 (by kernel_rfl) (by kernel_rfl) ?_
        simp only [List.take_succ_cons, List.take_zero, List.drop_succ_cons, List.drop_zero]
        repeat still_step
        refine wpStill_step (fun K hK => ?_)
        go_simp
        rw [HCF.out]
        go_simp
        refine ⟨_, HC.out.1 _ (HTC.out _ (grown_trans HW.out.2 (grown_of_below ((Below.refl wr.heap.size wr).drew) _))), hK _ ?_⟩
        clear hK K
        repeat still_step
        refine wpStill_nil ?_
        change wpList _ _ _ _ _ wr.drew
        have c1 : wr.drew.cell? ⟨L.kr b, off + j, none⟩ = some (.int .u8 (o.toNat : Int)) := c0
        go_wp2_with fail
        go_roundg (n - (j + 1))
        case measure => have := HX.out.1; omega
        case rel =>
          refine ⟨j + 1, by have := HX.out.1; omega, by go_num, ?_, grown_trans (grown_trans HW.out.2 (grown_of_below ((Below.refl wr.heap.size wr).drew) _)) (grown_setCell _ _ _ _)⟩
          rw [← HC.out.2.1]
          exact RowB.set' (w := wr.drew) HW.out.1 (off + j) HC.out.2.2
      · obtain rfl : j = n := by have := HX.out.1; omega
        have hge : ¬ (j : Int) < (j : Int) := by omega
        obtain ⟨hp2, ht2⟩ := HFIN.out.1 wr HX.out.2.1 HX.out.2.2
        have HP := Lib.hid (And.intro hp2 ht2)
        clear hp2 ht2
        go_wp2_with fail
        go_ret
        have hrr : R = ({(strikeS c).2 with bytes := spl c.bytes (b * c.N + off) mix}, 0) := by
          rw [← HR.out]
          unfold doneS
          simp only [H1.out.2.2.1]
          rw [HFIN.out.2.1]
        rw [hrr]
        exact ⟨rfl, ⟨_, HP.out.1⟩, HP.out.2⟩
  | some x =>
    obtain ⟨g, Bv, d, hpg, hge, hblk, hrv, hro, l1, l2⟩ := H1.out.2.2.2
    subst hpg
    have HIT := Lib.hid (And.intro hblk (And.intro hge (And.intro hrv (And.intro hro l1))))
    clear hblk hge hrv hro
    rcases Nat.eq_zero_or_pos x.mask.length with hM | hM
    · go_wp2_with fail
      go_loopg [17] n (fun k i wr => ∃ j : Nat, j + k = n ∧ i = .int .i64 j ∧ RowB 5 wr (L.kr b) (spl (c.row b) off (upto old mix j) ++ L.tl b) ∧ w1.grownBy wr (some (L.kr b)))
      case atStart => exact ⟨0, by omega, rfl, by rw [upto_zero, HAT.out.2.1]; exact HAT.out.2.2.1, World.grownBy.refl _ _⟩
      case round =>
        obtain ⟨j, hj, rfl, hrow, hgr⟩ := hrel
        have HX := Lib.hid (And.intro hj (And.intro hrow hgr))
        clear hj hrow hgr
        by_cases hlt : j < n
        · obtain ⟨o, y, ho, hy, hm, hcur, hset⟩ := HAT.out.1 j hlt
          have hjI : (j : Int) < (n : Int) := by omega
          have hbits := mixB_bits (maskAt (some x) j) o y
          have hblk := HIT.out.1.grown HX.out.2.2 (fun e => by injection e with e; have := HIT.out.2.1; have := HFIN.out.2.2; omega)
          have k2 := hblk.cell 2
          simp at k2
          clear hblk
          have hmz : maskAt (some x) j = 0 := by
            unfold maskAt
            dsimp only
            rw [List.eq_nil_of_length_eq_zero hM]
            rfl
          rw [hmz] at hbits hset
          rw [hM] at k2
          have HW := Lib.hid (And.intro HX.out.2.1 HX.out.2.2)
          have hcall : ∀ w', Tch F w w' → Calls Try.prog fid (#[.int .i64 (j : Int)] ++ cs) w' fun e w'' => e = .returned (.int .u8 (y.toNat : Int)) ∧ w'' = w' := fun w' ht => HF.out w' ht j y hy
          have HC := Lib.hid (And.intro hcall (And.intro hset hbits))
          clear ho hy hm hset hbits hcall
          go_wp2_with fail
          have c0 : wr.cell? ⟨L.kr b, off + j, none⟩ = some (.int .u8 (o.toNat : Int)) := HW.out.1.cell hcur
          have f0 : wr.drew.frozen? ⟨L.kr b, off + j, none⟩ = false := HW.out.1.frozen (off + j)
          clear hcur
          refine wp_region_still_tail 15 (by kernel_rfl) (by kernel_rfl) ?_
          simp only [List.take_succ_cons, List.take_zero, List.drop_succ_cons, List.drop_zero]
          repeat still_step
          refine wpStill_step (fun K hK => ?_)
          go_simp
          rw [HCF.out]
          go_simp
          refine ⟨_, HC.out.1 _ (HTC.out _ (grown_trans HW.out.2 (grown_of_below ((Below.refl wr.heap.size wr).drew) _))), hK _ ?_⟩
          clear hK K
          repeat still_step
          refine wpStill_nil ?_
          change wpList _ _ _ _ _ wr.drew
          have c1 : wr.drew.cell? ⟨L.kr b, off + j, none⟩ = some (.int .u8 (o.toNat : Int)) := c0
          go_wp2_with fail
          go_roundg (n - (j + 1))
          case measure => have := HX.out.1; omega
          case rel =>
            refine ⟨j + 1, by have := HX.out.1; omega, by go_num, ?_, grown_trans (grown_trans HW.out.2 (grown_of_below ((Below.refl wr.heap.size wr).drew) _)) (grown_setCell _ _ _ _)⟩
            rw [← HC.out.2.1]
            exact RowB.set' (w := wr.drew) HW.out.1 (off + j) HC.out.2.2
        · obtain rfl : j = n := by have := HX.out.1; omega
          have hge : ¬ (j : Int) < (j : Int) := by omega
          obtain ⟨hp2, ht2⟩ := HFIN.out.1 wr HX.out.2.1 HX.out.2.2
          have hbB : b < (strikeS c).2.B := by rw [(strikeS_same c).1]; exact H.out.2.2.1
          obtain ⟨c0, c1, c2, c3, c4, c5, c6, c7, c8, c9⟩ := hp2.cells
          have hcd := hp2.cd
          have fd := hp2.kd.frozen b
          have fa := hp2.blk.frozen 8
          obtain ⟨xb, hxb, cb0⟩ := hp2.badAt (b := b) hbB
          have hBI : (b : Int) < ((strikeS c).2.B : Int) := by omega
          have HP := Lib.hid (And.intro hp2 (And.intro ht2 hbB))
          have hblk2 := HIT.out.1.grown HX.out.2.2 (fun e => by injection e with e; have := HIT.out.2.1; have := HFIN.out.2.2; omega)
          have k1 := hblk2.cell 1
          simp at k1
          dsimp only at c0 c1 c2 c3 c4 c5 c6 c7 c8 c9 hcd fd fa
          clear hp2 ht2 hblk2 hxb c0 c1 c2 c3 c4 c6 c7 c9
          obtain ⟨bb, hbb⟩ : ∃ bb, x.fails = bb := ⟨_, rfl⟩
          rw [hbb] at k1
          cases bb with
          | true =>
            go_wp2_with fail
            go_ret
            have hrr : R = ({(strikeS c).2 with bytes := spl c.bytes (b * c.N + off) mix, bad := (strikeS c).2.bad.set b true}, 9) := by
              rw [← HR.out]
              unfold doneS
              simp only [H1.out.2.2.1, hbb]
              rw [HFIN.out.2.1]
              rfl
            rw [hrr]
            have hg := grown_setCell wr L.kd b (.bool true)
            refine ⟨rfl, ⟨_, HP.out.1.badset hg.size HP.out.2.2 (grown_ne hg) ?_⟩, HP.out.2.1.then (Tch.of_grown (F := F) hg (fun k e _ => ?_)) (fun _ _ h => h)⟩
            · have hb := HP.out.1.kd.set_ b (.bool true)
              rw [show ({(strikeS c).2 with bytes := spl c.bytes (b * c.N + off) mix} : Chp).bad = (strikeS c).2.bad from rfl] at hb ⊢
              have hl : b < ((strikeS c).2.bad.map Value.bool).length := by rw [List.length_map]; have := HP.out.1.ok.bads; dsimp only at this; have := HP.out.2.2; omega
              have e : ((strikeS c).2.bad.map Value.bool ++ L.td).toArray.setIfInBounds b (.bool true) = (((strikeS c).2.bad.set b true).map Value.bool ++ L.td).toArray := by
                rw [List.map_set, ← List.set_append_left _ _ hl]
                simp
              rwa [e] at hb
            · injection e with e
              rw [← e]
              exact HP.out.1.i1.2.1
          | false =>
            go_wp2_with fail
            go_ret
            have hrr : R = ({(strikeS c).2 with bytes := spl c.bytes (b * c.N + off) mix, dead := true}, 10) := by
              rw [← HR.out]
              unfold doneS
              simp only [H1.out.2.2.1, hbb]
              rw [HFIN.out.2.1]
              rfl
            rw [hrr]
            have hg := grown_setCell wr a 8 (.bool true)
            refine ⟨rfl, ⟨_, HP.out.1.strct hg.size (grown_ne hg) _ _ _ true A' ch' ?_ (HP.out.1.hits.grown hg) HP.out.1.ch⟩, HP.out.2.1.then (Tch.of_grown (F := F) hg (fun k e _ => ?_)) (fun _ _ h => h)⟩
            · have hb := HP.out.1.blk.set_ 8 (.bool true)
              simpa [chipCells] using hb
            · injection e with e
              rw [← e]
              exact HP.out.1.i1.1
    · go_wp2_with fail
      go_loopg [17] n (fun k i wr => ∃ j : Nat, j + k = n ∧ i = .int .i64 j ∧ RowB 5 wr (L.kr b) (spl (c.row b) off (upto old mix j) ++ L.tl b) ∧ w1.grownBy wr (some (L.kr b)))
      case atStart => exact ⟨0, by omega, rfl, by rw [upto_zero, HAT.out.2.1]; exact HAT.out.2.2.1, World.grownBy.refl _ _⟩
      case round =>
        obtain ⟨j, hj, rfl, hrow, hgr⟩ := hrel
        have HX := Lib.hid (And.intro hj (And.intro hrow hgr))
        clear hj hrow hgr
        by_cases hlt : j < n
        · obtain ⟨o, y, ho, hy, hm, hcur, hset⟩ := HAT.out.1 j hlt
          have hjI : (j : Int) < (n : Int) := by omega
          have hbits := mixB_bits (maskAt (some x) j) o y
          have hblk := HIT.out.1.grown HX.out.2.2 (fun e => by injection e with e; have := HIT.out.2.1; have := HFIN.out.2.2; omega)
          have k2 := hblk.cell 2
          simp at k2
          clear hblk
          obtain ⟨q, hq⟩ : ∃ q, j % x.mask.length = q := ⟨_, rfl⟩
          have hqM : q < x.mask.length := by rw [← hq]; exact Nat.mod_lt _ hM
          obtain ⟨mk, hmk⟩ : ∃ mk, x.mask[q]? = some mk := ⟨_, List.getElem?_eq_getElem hqM⟩
          have hmz : maskAt (some x) j = mk := by
            unfold maskAt
            dsimp only
            rw [hq, hmk]
          rw [hmz] at hbits hset
          have hrvw := HIT.out.2.2.1.grown HX.out.2.2 (fun bd hB hn e => by
            injection e with e
            exact (HIT.out.2.2.2.1 bd hB (by rwa [bv_length] at hn)).2.2.2 b H.out.2.2.1 e)
          obtain ⟨bd, hB, hcm⟩ := hrvw (by rw [bv_length]; exact hM)
          have km := hcm q (.int .u8 (mk.toNat : Int)) (by rw [bv_get, hmk]; rfl)
          subst hB
          obtain ⟨M, hMM⟩ : ∃ M, x.mask.length = M := ⟨_, rfl⟩
          rw [hMM] at k2 hq hqM hM
          have hrem : Int.tmod (j : Int) (M : Int) = (q : Int) := by rw [Int.tmod_eq_emod_of_nonneg (by omega), ← hq]; simp
          have hqI : (q : Int) < (M : Int) := by omega
          have hq8 : q ≤ 8192 := by have : j % M ≤ j := Nat.mod_le _ _; omega
          have hwq : IntKind.i64.wrap (q : Int) = (q : Int) := IntWalk.i64_in _ (by omega)
          have hM0 : ¬ (M : Int) = 0 := by omega
          have hMp : (0 : Int) < (M : Int) := by omega
          clear hq hmk hmz hrvw hcm hMM
          have hcall : ∀ w', Tch F w w' → Calls Try.prog fid (#[.int .i64 (j : Int)] ++ cs) w' fun e w'' => e = .returned (.int .u8 (y.toNat : Int)) ∧ w'' = w' := fun w' ht => HF.out w' ht j y hy
          have HC := Lib.hid (And.intro hcall (And.intro hset hbits))
          clear ho hy hm hset hbits hcall
          go_wp2_with fail
          go_quiet (fail)
          have HW := Lib.hid (show RowB 5 (wr.drewN nq) (L.kr b) (spl (c.row b) off (upto old mix j) ++ L.tl b) ∧ w1.grownBy (wr.drewN nq) (some (L.kr b)) from ⟨HX.out.2.1, grown_trans HX.out.2.2 (grown_drewN wr nq _)⟩)
          generalize wr.drewN nq = wq at *
          clear k2 km
          go_wp2_with fail
          have c0 : wq.cell? ⟨L.kr b, off + j, none⟩ = some (.int .u8 (o.toNat : Int)) := HW.out.1.cell hcur
          have f0 : wq.drew.frozen? ⟨L.kr b, off + j, none⟩ = false := HW.out.1.frozen (off + j)
          clear hcur
          refine wp_region_still_tail 15 (by kernel_rfl) (by kernel_rfl) ?_
          simp only [List.take_succ_cons, List.take_zero, List.drop_succ_cons, List.drop_zero]
          repeat still_step
          refine wpStill_step (fun K hK => ?_)
          go_simp
          rw [HCF.out]
          go_simp
          refine ⟨_, HC.out.1 _ (HTC.out _ (grown_trans HW.out.2 (grown_of_below ((Below.refl wq.heap.size wq).drew) _))), hK _ ?_⟩
          clear hK K
          repeat still_step
          refine wpStill_nil ?_
          change wpList _ _ _ _ _ wq.drew
          have c1 : wq.drew.cell? ⟨L.kr b, off + j, none⟩ = some (.int .u8 (o.toNat : Int)) := c0
          go_wp2_with fail
          go_roundg (n - (j + 1))
          case measure => have := HX.out.1; omega
          case rel =>
            refine ⟨j + 1, by have := HX.out.1; omega, by go_num, ?_, grown_trans (grown_trans HW.out.2 (grown_of_below ((Below.refl wq.heap.size wq).drew) _)) (grown_setCell _ _ _ _)⟩
            rw [← HC.out.2.1]
            exact RowB.set' (w := wq.drew) HW.out.1 (off + j) HC.out.2.2
        · obtain rfl : j = n := by have := HX.out.1; omega
          have hge : ¬ (j : Int) < (j : Int) := by omega
          obtain ⟨hp2, ht2⟩ := HFIN.out.1 wr HX.out.2.1 HX.out.2.2
          have hbB : b < (strikeS c).2.B := by rw [(strikeS_same c).1]; exact H.out.2.2.1
          obtain ⟨c0, c1, c2, c3, c4, c5, c6, c7, c8, c9⟩ := hp2.cells
          have hcd := hp2.cd
          have fd := hp2.kd.frozen b
          have fa := hp2.blk.frozen 8
          obtain ⟨xb, hxb, cb0⟩ := hp2.badAt (b := b) hbB
          have hBI : (b : Int) < ((strikeS c).2.B : Int) := by omega
          have HP := Lib.hid (And.intro hp2 (And.intro ht2 hbB))
          have hblk2 := HIT.out.1.grown HX.out.2.2 (fun e => by injection e with e; have := HIT.out.2.1; have := HFIN.out.2.2; omega)
          have k1 := hblk2.cell 1
          simp at k1
          dsimp only at c0 c1 c2 c3 c4 c5 c6 c7 c8 c9 hcd fd fa
          clear hp2 ht2 hblk2 hxb c0 c1 c2 c3 c4 c6 c7 c9
          obtain ⟨bb, hbb⟩ : ∃ bb, x.fails = bb := ⟨_, rfl⟩
          rw [hbb] at k1
          cases bb with
          | true =>
            go_wp2_with fail
            go_ret
            have hrr : R = ({(strikeS c).2 with bytes := spl c.bytes (b * c.N + off) mix, bad := (strikeS c).2.bad.set b true}, 9) := by
              rw [← HR.out]
              unfold doneS
              simp only [H1.out.2.2.1, hbb]
              rw [HFIN.out.2.1]
              rfl
            rw [hrr]
            have hg := grown_setCell wr L.kd b (.bool true)
            refine ⟨rfl, ⟨_, HP.out.1.badset hg.size HP.out.2.2 (grown_ne hg) ?_⟩, HP.out.2.1.then (Tch.of_grown (F := F) hg (fun k e _ => ?_)) (fun _ _ h => h)⟩
            · have hb := HP.out.1.kd.set_ b (.bool true)
              rw [show ({(strikeS c).2 with bytes := spl c.bytes (b * c.N + off) mix} : Chp).bad = (strikeS c).2.bad from rfl] at hb ⊢
              have hl : b < ((strikeS c).2.bad.map Value.bool).length := by rw [List.length_map]; have := HP.out.1.ok.bads; dsimp only at this; have := HP.out.2.2; omega
              have e : ((strikeS c).2.bad.map Value.bool ++ L.td).toArray.setIfInBounds b (.bool true) = (((strikeS c).2.bad.set b true).map Value.bool ++ L.td).toArray := by
                rw [List.map_set, ← List.set_append_left _ _ hl]
                simp
              rwa [e] at hb
            · injection e with e
              rw [← e]
              exact HP.out.1.i1.2.1
          | false =>
            go_wp2_with fail
            go_ret
            have hrr : R = ({(strikeS c).2 with bytes := spl c.bytes (b * c.N + off) mix, dead := true}, 10) := by
              rw [← HR.out]
              unfold doneS
              simp only [H1.out.2.2.1, hbb]
              rw [HFIN.out.2.1]
              rfl
            rw [hrr]
            have hg := grown_setCell wr a 8 (.bool true)
            refine ⟨rfl, ⟨_, HP.out.1.strct hg.size (grown_ne hg) _ _ _ true A' ch' ?_ (HP.out.1.hits.grown hg) HP.out.1.ch⟩, HP.out.2.1.then (Tch.of_grown (F := F) hg (fun k e _ => ?_)) (fun _ _ h => h)⟩
            · have hb := HP.out.1.blk.set_ 8 (.bool true)
              simpa [chipCells] using hb
            · injection e with e
              rw [← e]
              exact HP.out.1.i1.1
end Go.Proofs.Ytlcdabmclcfagaa
