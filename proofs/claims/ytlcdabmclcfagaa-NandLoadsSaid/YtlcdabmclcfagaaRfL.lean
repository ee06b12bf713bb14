/- Layer 3: the document's Load (of the small geometry): contract. -/
import Derived.Test.YtlcdabmclcfagaaLdS
import Derived.Test.YtlcdabmclcfagaaRfA
set_option linter.unusedVariables false
set_option linter.unusedSimpArgs false
namespace Go.Proofs.Ytlcdabmclcfagaa
open Go.RowKit

def midR (xs : List UInt8) (j : Nat) : List UInt8 := xs.take j ++ List.replicate (4096 - j) 255
theorem midR_get {xs : List UInt8} (hx : xs.length = 4096) {j : Nat} (hj : j ≤ 4096) (i : Nat) : (midR xs j)[i]? = if i < j then xs[i]? else if i < 4096 then some 255 else none := by
  unfold midR
  by_cases h2 : i < j
  · rw [List.getElem?_append_left (by rw [List.length_take]; omega), List.getElem?_take, if_pos h2, if_pos h2]
  · rw [List.getElem?_append_right (by rw [List.length_take]; omega), List.getElem?_replicate, List.length_take, if_neg h2]
    by_cases h3 : i < 4096
    · rw [if_pos (by omega), if_pos h3]
    · rw [if_neg (by omega), if_neg h3]
theorem midR_len {xs : List UInt8} (hx : xs.length = 4096) {j : Nat} (hj : j ≤ 4096) : (midR xs j).length = 4096 := by
  unfold midR
  rw [List.length_append, List.length_take, List.length_replicate]
  omega
theorem midR_step {xs : List UInt8} (hx : xs.length = 4096) {j : Nat} (hj : j < 4096) {x : UInt8} (hxj : xs[j]? = some x) : (midR xs j).set j x = midR xs (j + 1) := by
  apply List.ext_getElem?
  intro i
  rw [List.getElem?_set, midR_len hx (by omega), midR_get hx (by omega), midR_get hx (by omega)]
  by_cases h1 : j = i
  · subst h1
    rw [if_pos rfl, if_pos hj, if_pos (by omega), hxj]
  · rw [if_neg h1]
    by_cases h2 : i < j
    · have e1 : i < j + 1 := by omega
      rw [if_pos h2, if_pos e1]
    · have e1 : ¬ i < j + 1 := by omega
      rw [if_neg h2, if_neg e1]
theorem midR_all {xs : List UInt8} (hx : xs.length = 4096) : midR xs 4096 = xs := by
  unfold midR
  rw [← hx, List.take_length, Nat.sub_self]
  simp
theorem rload0 : loadC (List.replicate 4096 255) (List.replicate 8 false) = s0 := rfl
theorem drewN_below {B : Nat} {w0 w : World} (h : Below B w0 w) (n : Nat) : Below B w0 (w.drewN n) := h.trans ((Drawn.mk w n).below B)
theorem rcx_drewN {w : World} {F : Nat → Prop} {r : Nat} {L : RLay} {c : Chp} (h : RCx w F r L c) (n : Nat) : RCx (w.drewN n) F r L c := h.below ((Drawn.mk w n).below _)
theorem rbadset_pc {w : World} {F : Nat → Prop} {r : Nat} {L : RLay} {xs : List UInt8} {bs : List Bool} (h : RCx w F r L (loadC xs bs)) {b : Nat} (hb : b < 8) : RCx (w.setCell ⟨L.kd, b, none⟩ (.bool true)) F r L (loadC xs (bs.set b true)) := by
  have hg := grown_setCell w L.kd b (.bool true)
  refine h.badset hg.size (show b < (loadC xs bs).B from hb) (fun k hk hne => hg.block k hk (fun e => hne (by injection e))) ?_
  have h2 := h.kd.set_ b (.bool true)
  have hbl := h.ok.bads
  have hl : b < ((loadC xs bs).bad.map Value.bool).length := by rw [List.length_map, hbl]; exact hb
  rw [List.setIfInBounds_toArray, List.set_append_left _ _ hl, ← List.map_set] at h2
  exact h2

set_option maxRecDepth 100000 in
set_option maxHeartbeats 4000000 in
theorem rload_any (w : World) (ga n cc : Nat) (xs : List UInt8) (hn : xs.length = n) (hr : RV w (some ⟨ga, 0, none⟩) (bv xs)) (hga : ga < w.heap.size) (Bd : Option Addr) (m d : Nat) (bad : List Int) (hm : bad.length = m) (hb : RV w Bd (bad.map (Value.int .i64))) (hbm : m ≤ 140737488355328) :
    Calls Try.prog 33 #[.agg #[.int .i64 8, .int .i64 4, .int .i64 128, .int .i64 0], .slice (some ⟨ga, 0, none⟩) n cc, .slice Bd m d] w (LoadEnd w (loadS xs bad) RC) := by
  have hb0 := (Below.refl w.heap.size w).alloc (Nat.le_refl _) (.cells #[.int .i64 8, .int .i64 4, .int .i64 128, .int .i64 0] 28)
  have hB0 := Blk.new w 28 #[.int .i64 8, .int .i64 4, .int .i64 128, .int .i64 0]
  have hs0 := alloc_sz w (.cells #[.int .i64 8, .int .i64 4, .int .i64 128, .int .i64 0] 28)
  have HC := Lib.hid (show ∀ w', Below (w.heap.size + 1) (w.alloc (.cells #[.int .i64 8, .int .i64 4, .int .i64 128, .int .i64 0] 28)) w' → Below w.heap.size w w' ∧ w'.cell? ⟨w.heap.size, 0, none⟩ = some (.int .i64 8) from fun w' hb => by
    have h := hB0.below hb (Nat.lt_succ_self _)
    exact ⟨below_then hb0 hb0.size (by rw [hs0]; exact hb), h.cell 0⟩)
  have HNW := Lib.hid (rnew_any (w.alloc (.cells #[.int .i64 8, .int .i64 4, .int .i64 128, .int .i64 0] 28)) 8 4 128 0)
  have HR := Lib.hid (And.intro hn (And.intro hr (And.intro hga (And.intro hm hb))))
  clear hb0 hB0 hn hr hm hb hga
  go_enter Try.func33, Try.ntmps33
  go_wp2_with fail
  refine HNW.out.mono ?_
  rintro e w1 ⟨hb1, -, hm1⟩
  obtain ⟨r, rfl, hp⟩ := hm1 (by decide)
  rw [hs0] at hb1
  obtain ⟨F, hFe⟩ : ∃ F, F = fsh (w.alloc (.cells #[.int .i64 8, .int .i64 4, .int .i64 128, .int .i64 0] 28)) w1 := ⟨_, rfl⟩
  have HF := Lib.hid (show ∀ k, F k → w.heap.size + 1 ≤ k ∧ k < w1.heap.size from fun k hk => by rw [hFe] at hk; unfold fsh at hk; rw [hs0] at hk; exact hk)
  rw [← hFe] at hp
  obtain ⟨L, hp⟩ := hp
  rw [show newS (8 : Int).toNat (4 : Int).toNat (128 : Int).toNat (0 : Int).toNat = loadC (List.replicate 4096 255) (List.replicate 8 false) from rload0.symm] at hp
  clear hFe
  generalize w.alloc (.cells #[.int .i64 8, .int .i64 4, .int .i64 128, .int .i64 0] 28) = w0 at *
  have H1 := Lib.hid (And.intro hp hb1)
  have c4 : w1.cell? ⟨r, 4, none⟩ = some (.slice (some ⟨L.kb, 0, none⟩) 4096 (4096 + L.tb.length)) := hp.cells.2.2.2.2.1
  clear hm1 hp hb1 HNW
  by_cases hx : n = 4096
  · subst hx
    have HLS := Lib.hid (show loadS xs bad = (setBads bad (List.replicate 8 false)).map (loadC xs) from if_pos HR.out.1)
    go_wp2_with fail
    clear c4
    go_loopg [10] 4096 (fun k i wr => ∃ j : Nat, j + k = 4096 ∧ i = .int .i64 j ∧ RowB 5 wr L.kb (midR xs j ++ L.tb) ∧ w1.grownBy wr (some L.kb))
    case atStart => exact ⟨0, rfl, rfl, by
      have h := H1.out.1.kb
      rw [show (loadC (List.replicate 4096 255) (List.replicate 8 false)).bytes = midR xs 0 by unfold midR; simp; rfl] at h
      exact h, ⟨rfl, rfl, rfl, Nat.le_refl _, fun _ _ _ => rfl⟩⟩
    case round =>
      obtain ⟨j, hj, rfl, hrw, hg⟩ := hrel
      have HX := Lib.hid (And.intro hj (And.intro hrw hg))
      clear hj
      by_cases hlt : j < 4096
      · have hltI : (j : Int) < 4096 := by omega
        have hne : r ≠ L.kb := H1.out.1.f1.1
        have c4 : wr.cell? ⟨r, 4, none⟩ = some (.slice (some ⟨L.kb, 0, none⟩) 4096 (4096 + L.tb.length)) := ((H1.out.1.blk.grown hg (fun e => hne (by injection e))).cell 4)
        obtain ⟨x, hxj⟩ : ∃ x, xs[j]? = some x := ⟨_, List.getElem?_eq_getElem (by rw [HR.out.1]; exact hlt)⟩
        have hkb := HF.out _ H1.out.1.i1.2.1
        have hrv := HR.out.2.1.below (HC.out w1 H1.out.2).1
        obtain ⟨ad, hA, hcs⟩ := hrv (by rw [bv_length, HR.out.1]; decide)
        injection hA with hA
        subst hA
        have hx1 := hcs j (.int .u8 (x.toNat : Int)) (by rw [bv_get, hxj]; rfl)
        rw [add_lit0] at hx1
        have hgn : ga ≠ L.kb := by have := HR.out.2.2.1; omega
        have hx0 : wr.cell? ⟨ga, j, none⟩ = some (.int .u8 (x.toNat : Int)) := (World.cell?_of_block (hg.block ga (by have := HR.out.2.2.1; have := (HC.out w1 H1.out.2).1.size; omega) (fun e => hgn (by injection e)))).trans hx1
        obtain ⟨y, hyj⟩ : ∃ y, (midR xs j ++ L.tb)[j]? = some y := ⟨_, List.getElem?_eq_getElem (by rw [List.length_append, midR_len HR.out.1 (by omega)]; omega)⟩
        have hy0 := hrw.cell hyj
        have hfz := hrw.frozen j
        have HSTEP := Lib.hid (show RowB 5 (wr.drew.setCell ⟨L.kb, j, none⟩ (.int .u8 (x.toNat : Int))) L.kb (midR xs (j + 1) ++ L.tb) ∧ w1.grownBy (wr.drew.setCell ⟨L.kb, j, none⟩ (.int .u8 (x.toNat : Int))) (some L.kb) from by
          have hr2 : RowB 5 wr.drew L.kb (midR xs j ++ L.tb) := hrw
          have h1 := hr2.set j x
          rw [List.set_append_left _ _ (by rw [midR_len HR.out.1 (by omega)]; exact hlt), midR_step HR.out.1 hlt hxj] at h1
          refine ⟨h1, ?_⟩
          have h2 := grown_setCell wr.drew L.kb j (.int .u8 (x.toNat : Int))
          exact ⟨h2.os.trans hg.os, h2.tape.trans hg.tape, h2.output.trans hg.output, Nat.le_trans hg.size h2.size, fun i hi hne => (h2.block i (Nat.lt_of_lt_of_le hi hg.size) hne).trans (hg.block i hi hne)⟩)
        have hjw : IntKind.i64.wrap ((j : Int) + 1) = (j : Int) + 1 := IntWalk.i64_in _ (by omega)
        clear hrw hg hne hxj hkb hrv hcs hx1 hgn hyj
        generalize L.kb = kb at *
        generalize 4096 + L.tb.length = cb at *
        go_wp2_with fail
        refine wp_region_G (fun w' : World => w'.cell? ⟨r, 4, none⟩ = some (.slice (some ⟨kb, 0, none⟩) 4096 cb) ∧ w'.cell? ⟨ga, j, none⟩ = some (.int .u8 (x.toNat : Int)) ∧ w'.cell? ⟨kb, j, none⟩ = some (.int .u8 (y.toNat : Int)) ∧ w'.frozen? ⟨kb, j, none⟩ = false) 10 11 #[false, false, false, false, false, false, false, false, false, false, false] (by kernel_rfl) rfl (by kernel_rfl) ?_
        have hS0 : (fun w' : World => w'.cell? ⟨r, 4, none⟩ = some (.slice (some ⟨kb, 0, none⟩) 4096 cb) ∧ w'.cell? ⟨ga, j, none⟩ = some (.int .u8 (x.toNat : Int)) ∧ w'.cell? ⟨kb, j, none⟩ = some (.int .u8 (y.toNat : Int)) ∧ w'.frozen? ⟨kb, j, none⟩ = false) wr.drew := ⟨c4, hx0, hy0, hfz⟩
        dsimp only at hS0
        refine wpAnyG_takeL (i := 0) (v := ?v1) (fuel := 10) (listed' := #[true, false, false, false, false, false, false, false, false, false, false]) rfl (by kernel_rfl) (fun _ _ _ h => h) (.inl ⟨by rfl, ?hy1⟩) (by assumption) (by kernel_rfl) ?rest1
        case hy1 => (intro w' hSw; (try dsimp only at hSw); go_simp; try with_reducible rfl)
        try simp only [Act.put, List.setIfInBounds_toArray, List.set_cons_zero, List.set_cons_succ]
        refine wpAnyG_takeL (i := 1) (v := ?v2) (fuel := 9) (listed' := #[true, true, false, false, false, false, false, false, false, false, false]) rfl (by kernel_rfl) (fun _ _ _ h => h) (.inl ⟨by rfl, ?hy2⟩) (by assumption) (by kernel_rfl) ?rest2
        case hy2 => (intro w' hSw; (try dsimp only at hSw); go_simp; try with_reducible rfl)
        try simp only [Act.put, List.setIfInBounds_toArray, List.set_cons_zero, List.set_cons_succ]
        refine wpAnyG_takeL (i := 2) (v := ?v3) (fuel := 8) (listed' := #[true, true, true, false, false, false, false, false, false, false, false]) rfl (by kernel_rfl) (fun _ _ _ h => h) (.inl ⟨by rfl, ?hy3⟩) (by assumption) (by kernel_rfl) ?rest3
        case hy3 => (intro w' hSw; (try dsimp only at hSw); go_simp; try with_reducible rfl)
        try simp only [Act.put, List.setIfInBounds_toArray, List.set_cons_zero, List.set_cons_succ]
        refine wpAnyG_takeL (i := 3) (v := ?v4) (fuel := 7) (listed' := #[true, true, true, true, false, false, false, false, false, false, false]) rfl (by kernel_rfl) (fun _ _ _ h => h) (.inl ⟨by rfl, ?hy4⟩) (by assumption) (by kernel_rfl) ?rest4
        case hy4 => (intro w' hSw; (try dsimp only at hSw); go_simp; try with_reducible rfl)
        try simp only [Act.put, List.setIfInBounds_toArray, List.set_cons_zero, List.set_cons_succ]
        refine wpAnyG_takeL (i := 4) (v := ?v5) (fuel := 6) (listed' := #[true, true, true, true, true, false, false, false, false, false, false]) rfl (by kernel_rfl) (fun _ _ _ h => h) (.inl ⟨by rfl, ?hy5⟩) (by assumption) (by kernel_rfl) ?rest5
        case hy5 => (intro w' hSw; (try dsimp only at hSw); go_simp; try with_reducible rfl)
        try simp only [Act.put, List.setIfInBounds_toArray, List.set_cons_zero, List.set_cons_succ]
        refine wpAnyG_takeL (i := 5) (v := ?v6) (fuel := 5) (listed' := #[true, true, true, true, true, true, false, false, false, false, false]) rfl (by kernel_rfl) (fun _ _ _ h => h) (.inl ⟨by rfl, ?hy6⟩) (by assumption) (by kernel_rfl) ?rest6
        case hy6 => (intro w' hSw; (try dsimp only at hSw); go_simp; try with_reducible rfl)
        try simp only [Act.put, List.setIfInBounds_toArray, List.set_cons_zero, List.set_cons_succ]
        refine wpAnyG_takeL (i := 6) (v := ?v7) (fuel := 4) (listed' := #[true, true, true, true, true, true, true, false, false, false, false]) rfl (by kernel_rfl) (fun _ _ _ h => h) (.inl ⟨by rfl, ?hy7⟩) (by assumption) (by kernel_rfl) ?rest7
        case hy7 => (intro w' hSw; (try dsimp only at hSw); go_simp; try with_reducible rfl)
        try simp only [Act.put, List.setIfInBounds_toArray, List.set_cons_zero, List.set_cons_succ]
        refine wpAnyG_takeL (i := 7) (v := ?v8) (fuel := 3) (listed' := #[true, true, true, true, true, true, true, true, false, false, false]) rfl (by kernel_rfl) (fun _ _ _ h => h) (.inl ⟨by rfl, ?hy8⟩) (by assumption) (by kernel_rfl) ?rest8
        case hy8 => (intro w' hSw; (try dsimp only at hSw); go_simp; try with_reducible rfl)
        try simp only [Act.put, List.setIfInBounds_toArray, List.set_cons_zero, List.set_cons_succ]
        refine wpAnyG_takeL (i := 8) (v := ?v9) (fuel := 2) (listed' := #[true, true, true, true, true, true, true, true, true, false, false]) rfl (by kernel_rfl) (fun _ _ _ h => h) (.inl ⟨by rfl, ?hy9⟩) (by assumption) (by kernel_rfl) ?rest9
        case hy9 => (intro w' hSw; (try dsimp only at hSw); go_simp; try with_reducible rfl)
        try simp only [Act.put, List.setIfInBounds_toArray, List.set_cons_zero, List.set_cons_succ]
        refine wpAnyG_takeL (i := 9) (v := ?v10) (fuel := 1) (listed' := #[true, true, true, true, true, true, true, true, true, true, false]) rfl (by kernel_rfl) (fun _ _ _ h => h) (.inl ⟨by rfl, ?hy10⟩) (by assumption) (by kernel_rfl) ?rest10
        case hy10 => (intro w' hSw; (try dsimp only at hSw); go_simp; try with_reducible rfl)
        try simp only [Act.put, List.setIfInBounds_toArray, List.set_cons_zero, List.set_cons_succ]
        have hst : wr.drew.cell? ⟨kb, j, none⟩ = some (.int .u8 (y.toNat : Int)) := hy0
        have hfr : wr.drew.frozen? ⟨kb, j, none⟩ = false := hfz
        refine wpAnyG_oneL (i := 10) (fuel := 0) (listed' := #[true, true, true, true, true, true, true, true, true, true, true]) rfl (by kernel_rfl) (by kernel_rfl) (by rfl) (fun K hK0 => ?_)
        have hK := Lib.hid hK0
        clear hK0
        go_simp
        refine hK.out _ _ (.inr (by decide)) ?_
        clear hK K hS0
        refine wpAnyG_done (by kernel_rfl) ?_ _
        go_wp2_with fail
        go_roundg (4096 - (j + 1))
        case measure => have := HX.out.1; omega
        case rel =>
          obtain ⟨e1, e2⟩ := HSTEP.out
          exact ⟨j + 1, by have := HX.out.1; omega, by go_num, e1, e2⟩
      · obtain rfl : j = 4096 := by have := HX.out.1; omega
        rw [midR_all HR.out.1] at hrw
        have hp : RCx wr F r L (loadC xs (List.replicate 8 false)) := H1.out.1.bytset hg.size (bs := xs) (by rw [HR.out.1]; exact List.length_replicate.symm) (fun k hk hne => hg.block k hk (fun e => hne (by injection e))) hrw
        have hbw : Below (w.heap.size + 1) w0 wr := H1.out.2.grown hg (Nat.le_trans (Nat.le_of_eq (by rw [hs0])) H1.out.2.size) (fun k e => by injection e with e; have := HF.out _ H1.out.1.i1.2.1; omega)
        have HP8 := Lib.hid (And.intro hp hbw)
        clear hp hbw HX hlt hrw hg
        go_wp2_with fail
        go_loopg [11] m (fun k i wr => ∃ j : Nat, j + k = m ∧ i = .int .i64 j ∧ ∃ bs, setBads (bad.take j) (List.replicate 8 false) = some bs ∧ RCx wr F r L (loadC xs bs) ∧ Below (w.heap.size + 1) w0 wr)
        case atStart => exact ⟨0, by omega, rfl, _, rfl, HP8.out.1, HP8.out.2⟩
        case round =>
          obtain ⟨j, hj, rfl, bs, hbs, hp, hbw⟩ := hrel
          have HY := Lib.hid (And.intro hj (And.intro hbs (And.intro hp hbw)))
          have HBW := Lib.hid (HC.out wr hbw).1
          obtain ⟨-, d0⟩ := HC.out wr hbw
          have c5 : wr.cell? ⟨r, 5, none⟩ = some (.slice (some ⟨L.kd, 0, none⟩) 8 L.cd) := hp.cells.2.2.2.2.2.1
          have hcd := hp.cd
          clear hj hbs hp hbw
          by_cases hlt : j < m
          · have hltI : (j : Int) < (m : Int) := by omega
            obtain ⟨i, hij⟩ : ∃ i, bad[j]? = some i := ⟨_, List.getElem?_eq_getElem (by rw [HR.out.2.2.2.1]; exact hlt)⟩
            obtain ⟨bd, rfl, hci⟩ := (HR.out.2.2.2.2.below HBW.out).at_ (k := j) (by rw [List.length_map, HR.out.2.2.2.1]; exact hlt)
            have ebm : (bad.map (Value.int .i64))[j]'(by rw [List.length_map, HR.out.2.2.2.1]; exact hlt) = .int .i64 i := by
              rw [List.getElem_map]
              congr 1
              exact (List.getElem?_eq_some_iff.1 hij).2
            rw [ebm] at hci
            clear ebm
            by_cases hi0 : i < 0
            · have t1 : decide (i < 0) = true := decide_eq_true hi0
              have hno := (setBads_at HY.out.2.1 hij).1 (.inl hi0)
              have HBX := Lib.hid (HBW.out)
              go_wp2_with fail
              go_quiet (fail)
              go_wp2_with fail
              go_ret2
              exact ⟨drewN_below HBW.out _, fun _ => rfl, fun c hc => by rw [HLS.out, hno] at hc; cases hc⟩
            · by_cases hi8 : (8 : Int) ≤ i
              · have t1 : decide (i < 0) = false := decide_eq_false hi0
                have t2 : decide ((8 : Int) ≤ i) = true := decide_eq_true hi8
                have hno := (setBads_at HY.out.2.1 hij).1 (.inr hi8)
                go_wp2_with fail
                go_quiet (fail)
                go_wp2_with fail
                go_ret2
                exact ⟨drewN_below HBW.out _, fun _ => rfl, fun c hc => by rw [HLS.out, hno] at hc; cases hc⟩
              · obtain ⟨q, rfl⟩ : ∃ q : Nat, i = (q : Int) := ⟨i.toNat, by omega⟩
                have hq8 : q < 8 := by omega
                have t1 : decide ((q : Int) < 0) = false := decide_eq_false hi0
                have t2 : decide ((8 : Int) ≤ (q : Int)) = false := decide_eq_false hi8
                have hyes := (setBads_at HY.out.2.1 hij).2 (by omega)
                rw [Int.toNat_natCast] at hyes
                obtain ⟨x, hx, y0⟩ := HY.out.2.2.1.badAt (b := q) hq8
                have hfz := HY.out.2.2.1.kd.frozen q
                have hkd := HF.out _ HY.out.2.2.1.i1.2.2
                have HST := Lib.hid (show ∀ t t2 : Nat, RCx (((wr.drewN t).drewN t2).setCell ⟨L.kd, q, none⟩ (.bool true)) F r L (loadC xs (bs.set q true)) ∧ Below (w.heap.size + 1) w0 (((wr.drewN t).drewN t2).setCell ⟨L.kd, q, none⟩ (.bool true)) from fun t t2 => ⟨rbadset_pc (rcx_drewN (rcx_drewN HY.out.2.2.1 t) t2) hq8, (drewN_below (drewN_below HY.out.2.2.2 t) t2).setCell (p := ⟨L.kd, q, none⟩) hkd.1 (.bool true)⟩)
                have hqI : (q : Int) < 8 := by omega
                have hq0 : (0 : Int) ≤ (q : Int) := by omega
                have hcd8 : 8 ≤ L.cd := by have := hcd.1; have : (loadC xs bs).B = 8 := rfl; omega
                clear hx hkd hij hcd
                have hjw : IntKind.i64.wrap ((j : Int) + 1) = (j : Int) + 1 := IntWalk.i64_in _ (by omega)
                generalize L.kd = kd at *
                generalize L.cd = cd at *
                go_wp2_with fail
                go_quiet (fail)
                rename_i nq
                have HD := Lib.hid (show (wr.drewN nq).cell? ⟨r, 5, none⟩ = some (.slice (some ⟨kd, 0, none⟩) 8 cd) ∧ (wr.drewN nq).cell? (bd.add j) = some (.int .i64 (q : Int)) ∧ (wr.drewN nq).cell? ⟨kd, q, none⟩ = some (.bool x) ∧ (wr.drewN nq).frozen? ⟨kd, q, none⟩ = false from ⟨c5, hci, y0, hfz⟩)
                have HN := Lib.hid (And.intro hyes (HST.out nq 1))
                generalize wr.drewN nq = wd at *
                go_wp2_with fail
                refine wp_region_G (fun w' : World => w'.cell? ⟨r, 5, none⟩ = some (.slice (some ⟨kd, 0, none⟩) 8 cd) ∧ w'.cell? (bd.add j) = some (.int .i64 (q : Int)) ∧ w'.cell? ⟨kd, q, none⟩ = some (.bool x) ∧ w'.frozen? ⟨kd, q, none⟩ = false) 9 10 #[false, false, false, false, false, false, false, false, false, false] (by kernel_rfl) rfl (by kernel_rfl) ?_
                have hS0 : (fun w' : World => w'.cell? ⟨r, 5, none⟩ = some (.slice (some ⟨kd, 0, none⟩) 8 cd) ∧ w'.cell? (bd.add j) = some (.int .i64 (q : Int)) ∧ w'.cell? ⟨kd, q, none⟩ = some (.bool x) ∧ w'.frozen? ⟨kd, q, none⟩ = false) wd.drew := ⟨HD.out.1, HD.out.2.1, HD.out.2.2.1, HD.out.2.2.2⟩
                dsimp only at hS0
                refine wpAnyG_takeL (i := 0) (v := ?v11) (fuel := 9) (listed' := #[true, false, false, false, false, false, false, false, false, false]) rfl (by kernel_rfl) (fun _ _ _ h => h) (.inl ⟨by rfl, ?hy11⟩) (by assumption) (by kernel_rfl) ?rest11
                case hy11 => (intro w' hSw; (try dsimp only at hSw); go_simp; try with_reducible rfl)
                try simp only [Act.put, List.setIfInBounds_toArray, List.set_cons_zero, List.set_cons_succ]
                refine wpAnyG_takeL (i := 1) (v := ?v12) (fuel := 8) (listed' := #[true, true, false, false, false, false, false, false, false, false]) rfl (by kernel_rfl) (fun _ _ _ h => h) (.inl ⟨by rfl, ?hy12⟩) (by assumption) (by kernel_rfl) ?rest12
                case hy12 => (intro w' hSw; (try dsimp only at hSw); go_simp; try with_reducible rfl)
                try simp only [Act.put, List.setIfInBounds_toArray, List.set_cons_zero, List.set_cons_succ]
                refine wpAnyG_takeL (i := 2) (v := ?v13) (fuel := 7) (listed' := #[true, true, true, false, false, false, false, false, false, false]) rfl (by kernel_rfl) (fun _ _ _ h => h) (.inl ⟨by rfl, ?hy13⟩) (by assumption) (by kernel_rfl) ?rest13
                case hy13 => (intro w' hSw; (try dsimp only at hSw); go_simp; try with_reducible rfl)
                try simp only [Act.put, List.setIfInBounds_toArray, List.set_cons_zero, List.set_cons_succ]
                refine wpAnyG_takeL (i := 3) (v := ?v14) (fuel := 6) (listed' := #[true, true, true, true, false, false, false, false, false, false]) rfl (by kernel_rfl) (fun _ _ _ h => h) (.inl ⟨by rfl, ?hy14⟩) (by assumption) (by kernel_rfl) ?rest14
                case hy14 => (intro w' hSw; (try dsimp only at hSw); go_simp; try with_reducible rfl)
                try simp only [Act.put, List.setIfInBounds_toArray, List.set_cons_zero, List.set_cons_succ]
                refine wpAnyG_takeL (i := 4) (v := ?v15) (fuel := 5) (listed' := #[true, true, true, true, true, false, false, false, false, false]) rfl (by kernel_rfl) (fun _ _ _ h => h) (.inl ⟨by rfl, ?hy15⟩) (by assumption) (by kernel_rfl) ?rest15
                case hy15 => (intro w' hSw; (try dsimp only at hSw); go_simp; try with_reducible rfl)
                try simp only [Act.put, List.setIfInBounds_toArray, List.set_cons_zero, List.set_cons_succ]
                refine wpAnyG_takeL (i := 5) (v := ?v16) (fuel := 4) (listed' := #[true, true, true, true, true, true, false, false, false, false]) rfl (by kernel_rfl) (fun _ _ _ h => h) (.inl ⟨by rfl, ?hy16⟩) (by assumption) (by kernel_rfl) ?rest16
                case hy16 => (intro w' hSw; (try dsimp only at hSw); go_simp; try with_reducible rfl)
                try simp only [Act.put, List.setIfInBounds_toArray, List.set_cons_zero, List.set_cons_succ]
                refine wpAnyG_takeL (i := 6) (v := ?v17) (fuel := 3) (listed' := #[true, true, true, true, true, true, true, false, false, false]) rfl (by kernel_rfl) (fun _ _ _ h => h) (.inl ⟨by rfl, ?hy17⟩) (by assumption) (by kernel_rfl) ?rest17
                case hy17 => (intro w' hSw; (try dsimp only at hSw); go_simp; try with_reducible rfl)
                try simp only [Act.put, List.setIfInBounds_toArray, List.set_cons_zero, List.set_cons_succ]
                refine wpAnyG_takeL (i := 7) (v := ?v18) (fuel := 2) (listed' := #[true, true, true, true, true, true, true, true, false, false]) rfl (by kernel_rfl) (fun _ _ _ h => h) (.inl ⟨by rfl, ?hy18⟩) (by assumption) (by kernel_rfl) ?rest18
                case hy18 => (intro w' hSw; (try dsimp only at hSw); go_simp; try with_reducible rfl)
                try simp only [Act.put, List.setIfInBounds_toArray, List.set_cons_zero, List.set_cons_succ]
                refine wpAnyG_takeL (i := 8) (v := ?v19) (fuel := 1) (listed' := #[true, true, true, true, true, true, true, true, true, false]) rfl (by kernel_rfl) (fun _ _ _ h => h) (.inl ⟨by rfl, ?hy19⟩) (by assumption) (by kernel_rfl) ?rest19
                case hy19 => (intro w' hSw; (try dsimp only at hSw); go_simp; try with_reducible rfl)
                try simp only [Act.put, List.setIfInBounds_toArray, List.set_cons_zero, List.set_cons_succ]
                have hst : wd.drew.cell? ⟨kd, q, none⟩ = some (.bool x) := HD.out.2.2.1
                have hfr : wd.drew.frozen? ⟨kd, q, none⟩ = false := HD.out.2.2.2
                refine wpAnyG_oneL (i := 9) (fuel := 0) (listed' := #[true, true, true, true, true, true, true, true, true, true]) rfl (by kernel_rfl) (by kernel_rfl) (by rfl) (fun K hK0 => ?_)
                have hK := Lib.hid hK0
                clear hK0
                go_simp
                refine hK.out _ _ (.inr (by decide)) ?_
                clear hK K hS0
                refine wpAnyG_done (by kernel_rfl) ?_ _
                go_wp2_with fail
                go_roundg (m - (j + 1))
                case measure => have := HY.out.1; omega
                case rel =>
                  obtain ⟨e1, e2⟩ := HN.out.2
                  exact ⟨j + 1, by have := HY.out.1; omega, by go_num, _, HN.out.1, e1, e2⟩
          · obtain rfl : j = m := by have := HY.out.1; omega
            have hge : ¬ (j : Int) < (j : Int) := by omega
            have hall := HY.out.2.1
            rw [← HR.out.2.2.2.1, List.take_length] at hall
            have hfin : RC wr (fsh w wr) r (loadC xs bs) := ⟨L, HY.out.2.2.1.mono (fun k hk => ⟨by have := (HF.out k hk).1; omega, HY.out.2.2.1.lt k hk⟩) (fun k hk => hk.2)⟩
            have HFN := Lib.hid (And.intro hfin (And.intro HBW.out hall))
            clear hfin hall
            go_wp2_with fail
            go_ret2
            refine ⟨HFN.out.2.1, fun h => (by rw [HLS.out, HFN.out.2.2] at h; cases h), fun c hc => ?_⟩
            rw [HLS.out, HFN.out.2.2] at hc
            obtain rfl : loadC xs bs = c := by simpa using hc
            exact ⟨r, rfl, HFN.out.1⟩
  · have hne : ¬ (n : Int) = 4096 := by omega
    have t1 : decide ((n : Int) = 4096) = false := decide_eq_false hne
    have hno : loadS xs bad = none := if_neg (by rw [HR.out.1]; exact hx)
    have HFN := Lib.hid (And.intro hno (HC.out w1 H1.out.2).1)
    clear hno
    go_wp2_with fail
    go_ret2
    exact ⟨HFN.out.2, fun _ => rfl, fun c hc => by rw [HFN.out.1] at hc; cases hc⟩
end Go.Proofs.Ytlcdabmclcfagaa
