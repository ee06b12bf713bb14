/- Layer 3: the program's Load (of the small geometry): contract. -/
import Derived.Test.YtlcdabmclcfagaaLdS
import Derived.Test.YtlcdabmclcfagaaNdR
import Derived.Test.YtlcdabmclcfagaaOrdG
set_option linter.unusedVariables false
set_option linter.unusedSimpArgs false
namespace Go.Proofs.Ytlcdabmclcfagaa
open Go.RowKit

def midS (xs : List UInt8) (j : Nat) : List UInt8 := xs.take (j * 512) ++ List.replicate (4096 - j * 512) 255
theorem midS_len {xs : List UInt8} (hx : xs.length = 4096) {j : Nat} (hj : j ≤ 8) : (midS xs j).length = 4096 := by
  unfold midS
  rw [List.length_append, List.length_take, List.length_replicate]
  omega
set_option maxRecDepth 20000 in
theorem midS_step {xs : List UInt8} (hx : xs.length = 4096) {j : Nat} (hj : j < 8) : spl (midS xs j) (j * 512) (seg xs (j * 512) 512) = midS xs (j + 1) := by
  have hl : (seg xs (j * 512) 512).length = 512 := seg_len (by omega)
  apply List.ext_getElem?
  intro i
  rw [spl_get (by rw [midS_len hx (by omega), hl]; omega), hl]
  unfold midS
  by_cases h1 : j * 512 ≤ i ∧ i < j * 512 + 512
  · rw [if_pos h1, seg_get (by omega), List.getElem?_append_left (by rw [List.length_take]; omega), List.getElem?_take, if_pos (by omega)]
    congr 1
    omega
  · rw [if_neg h1]
    by_cases h2 : i < j * 512
    · rw [List.getElem?_append_left (by rw [List.length_take]; omega), List.getElem?_append_left (by rw [List.length_take]; omega), List.getElem?_take, List.getElem?_take, if_pos h2, if_pos (by omega)]
    · rw [List.getElem?_append_right (by rw [List.length_take]; omega), List.getElem?_append_right (by rw [List.length_take]; omega), List.getElem?_replicate, List.getElem?_replicate, List.length_take, List.length_take]
      by_cases h3 : i < 4096
      · rw [if_pos (by omega), if_pos (by omega)]
      · rw [if_neg (by omega), if_neg (by omega)]
theorem midS_all {xs : List UInt8} (hx : xs.length = 4096) : midS xs 8 = xs := by
  unfold midS
  rw [show (8 : Nat) * 512 = xs.length by omega, List.take_length, hx]
  simp
theorem load0 (xs : List UInt8) : loadC (midS xs 0) (List.replicate 8 false) = s0 := by
  unfold loadC midS
  rw [Nat.zero_mul, List.take_zero, List.nil_append, Nat.sub_zero]
  rfl
theorem badset_pc {w : World} {F : Nat → Prop} {a : Nat} {L : Lay} {xs : List UInt8} {bs : List Bool} (h : PCx w F a L (loadC xs bs)) {b : Nat} (hb : b < 8) : PCx (w.setCell ⟨L.kd, b, none⟩ (.bool true)) F a L (loadC xs (bs.set b true)) := by
  have hg := grown_setCell w L.kd b (.bool true)
  refine h.badset hg.size (show b < (loadC xs bs).B from hb) (grown_ne hg) ?_
  have h2 := h.kd.set_ b (.bool true)
  have hbl := h.ok.bads
  have hl : b < ((loadC xs bs).bad.map Value.bool).length := by rw [List.length_map, hbl]; exact hb
  rw [List.setIfInBounds_toArray, List.set_append_left _ _ hl, ← List.map_set] at h2
  exact h2

set_option maxRecDepth 100000 in
set_option maxHeartbeats 4000000 in
theorem load_any (w : World) (ga n cc : Nat) (xs : List UInt8) (hn : xs.length = n) (hr : RV w (some ⟨ga, 0, none⟩) (bv xs)) (hc : n ≤ cc) (hcm : cc ≤ maxLen) (Bd : Option Addr) (m d : Nat) (bad : List Int) (hm : bad.length = m) (hb : RV w Bd (bad.map (Value.int .i64))) (hbm : m ≤ 140737488355328) :
    Calls Try.prog 32 #[.agg #[.int .i64 8, .int .i64 4, .int .i64 128, .int .i64 0], .slice (some ⟨ga, 0, none⟩) n cc, .slice Bd m d] w (LoadEnd w (loadS xs bad) PC) := by
  have hb0 := (Below.refl w.heap.size w).alloc (Nat.le_refl _) (.cells #[.int .i64 8, .int .i64 4, .int .i64 128, .int .i64 0] 28)
  have hB0 := Blk.new w 28 #[.int .i64 8, .int .i64 4, .int .i64 128, .int .i64 0]
  have hs0 := alloc_sz w (.cells #[.int .i64 8, .int .i64 4, .int .i64 128, .int .i64 0] 28)
  have HC := Lib.hid (show ∀ w', Below (w.heap.size + 1) (w.alloc (.cells #[.int .i64 8, .int .i64 4, .int .i64 128, .int .i64 0] 28)) w' → Below w.heap.size w w' ∧ w'.cell? ⟨w.heap.size, 0, none⟩ = some (.int .i64 8) ∧ w'.cell? ⟨w.heap.size, 1, none⟩ = some (.int .i64 4) ∧ w'.cell? ⟨w.heap.size, 2, none⟩ = some (.int .i64 128) from fun w' hb => by
    have h := hB0.below hb (Nat.lt_succ_self _)
    exact ⟨below_then hb0 hb0.size (by rw [hs0]; exact hb), h.cell 0, h.cell 1, h.cell 2⟩)
  have HNW := Lib.hid (new_any (w.alloc (.cells #[.int .i64 8, .int .i64 4, .int .i64 128, .int .i64 0] 28)) 8 4 128 0)
  have HR := Lib.hid (And.intro hn (And.intro hr (And.intro hc (And.intro hcm (And.intro hm hb)))))
  clear hb0 hB0 hn hr hm hb
  go_enter Try.func32, Try.ntmps32
  go_wp2_with fail
  refine HNW.out.mono ?_
  rintro e w1 ⟨hb1, -, hm1⟩
  obtain ⟨g, rfl, hp⟩ := hm1 (by decide)
  rw [hs0] at hb1
  obtain ⟨F, hFe⟩ : ∃ F, F = fsh (w.alloc (.cells #[.int .i64 8, .int .i64 4, .int .i64 128, .int .i64 0] 28)) w1 := ⟨_, rfl⟩
  have HF := Lib.hid (show ∀ k, F k → w.heap.size + 1 ≤ k ∧ k < w1.heap.size from fun k hk => by rw [hFe] at hk; unfold fsh at hk; rw [hs0] at hk; exact hk)
  rw [← hFe] at hp
  obtain ⟨L, hp⟩ := hp
  rw [show newS (8 : Int).toNat (4 : Int).toNat (128 : Int).toNat (0 : Int).toNat = loadC (midS xs 0) (List.replicate 8 false) from (load0 xs).symm] at hp
  clear hFe
  generalize w.alloc (.cells #[.int .i64 8, .int .i64 4, .int .i64 128, .int .i64 0] 28) = w0 at *
  have H1 := Lib.hid (And.intro hp hb1)
  obtain ⟨b0, d0, d1, d2⟩ := HC.out w1 hb1
  have hgsz := hs0
  clear hm1 hp hb1 HNW b0
  by_cases hx : n = 4096
  · subst hx
    have HLS := Lib.hid (show loadS xs bad = (setBads bad (List.replicate 8 false)).map (loadC xs) from if_pos HR.out.1)
    have c4' := H1.out.1.cells.2.2.2.2.1
    have c4 : w1.cell? ⟨g, 4, none⟩ = some (.slice (some ⟨L.kb, 0, none⟩) 8 L.cb) := c4'
    clear c4'
    go_wp2_with fail
    clear c4 d0 d1 d2
    go_loopg [39] 8 (fun k i wr => ∃ j : Nat, j + k = 8 ∧ i = .int .i64 j ∧ PCx wr F g L (loadC (midS xs j) (List.replicate 8 false)) ∧ Below (w.heap.size + 1) w0 wr)
    case atStart => exact ⟨0, rfl, rfl, H1.out.1, H1.out.2⟩
    case round =>
      obtain ⟨j, hj, rfl, hp, hbw⟩ := hrel
      have HX := Lib.hid (And.intro hj (And.intro hp hbw))
      clear hj
      by_cases hlt : j < 8
      · have hltI : (j : Int) < 8 := by omega
        have c4 : wr.cell? ⟨g, 4, none⟩ = some (.slice (some ⟨L.kb, 0, none⟩) 8 L.cb) := hp.cells.2.2.2.2.1
        have y0 : wr.cell? ⟨L.kb, j, none⟩ = some (.slice (some ⟨L.kr j, 0, none⟩) 512 (512 + (L.tl j).length)) := hp.kb j hlt
        have hcb : 8 ≤ L.cb := hp.cb.1
        have HRW := Lib.hid (show RowB 5 wr.drew (L.kr j) ((loadC (midS xs j) (List.replicate 8 false)).row j ++ L.tl j) from hp.row j hlt)
        have hkr := HF.out _ (hp.i2 j hlt)
        have hrl : ((loadC (midS xs j) (List.replicate 8 false)).row j).length = 512 := hp.ok.row_len hlt
        have hsl : (seg xs (j * 512) 512).length = 512 := seg_len (by rw [HR.out.1]; omega)
        have HSG := Lib.hid (And.intro hsl (show RV wr.drew (some ⟨ga, j * 512, none⟩) (bv (seg xs (j * 512) 512)) from by
          have h1 := (HR.out.2.1.below (HC.out _ hbw).1)
          have h2 : RV wr (some ((⟨ga, 0, none⟩ : Addr).add (j * 512))) (((bv xs).drop (j * 512)).take 512) := (h1.drop (j * 512)).take 512
          rw [add_lit0] at h2
          unfold seg
          rw [bv_take, bv_drop]
          exact h2))
        have HSG2 := Lib.hid (show 0 + 512 ≤ ((loadC (midS xs j) (List.replicate 8 false)).row j ++ L.tl j).length by rw [List.length_append, hrl]; omega)
        have HSTEP := Lib.hid (show ∀ w', RowB 5 w' (L.kr j) (((loadC (midS xs j) (List.replicate 8 false)).row j ++ L.tl j).take 0 ++ (seg xs (j * 512) 512 ++ ((loadC (midS xs j) (List.replicate 8 false)).row j ++ L.tl j).drop (0 + 512))) → wr.drew.grownBy w' (some (L.kr j)) → PCx w' F g L (loadC (midS xs (j + 1)) (List.replicate 8 false)) ∧ Below (w.heap.size + 1) w0 w' from fun w' hrow hg => by
          have h1 := hp.rowset (w' := w') hg.size (b := j) (off := 0) (m := seg xs (j * 512) 512) hlt (by rw [hsl]; show 0 + 512 ≤ 4 * 128; decide) (fun k hk hne => hg.block k hk (fun e => hne (by injection e))) (by
            have e : spl ((loadC (midS xs j) (List.replicate 8 false)).row j) 0 (seg xs (j * 512) 512) = seg xs (j * 512) 512 := by
              unfold spl
              rw [List.take_zero, List.nil_append, List.drop_of_length_le (by rw [hsl, hrl]; exact Nat.le_refl 512), List.append_nil]
            rw [e]
            rw [List.take_zero, List.nil_append, Nat.zero_add, List.drop_left' hrl] at hrow
            exact hrow)
          refine ⟨?_, hbw.drew.grown hg (show w.heap.size + 1 ≤ wr.heap.size from by have := hkr.1; have := HRW.out.lt; exact Nat.le_trans hkr.1 (Nat.le_of_lt this)) (fun k e => by injection e with e; omega)⟩
          rw [← midS_step HR.out.1 hlt]
          exact h1)
        have hcc := HR.out.2.2.1
        have hccm := HR.out.2.2.2.1
        have hJ : ∃ J, j * 512 = J := ⟨_, rfl⟩
        have hjw : IntKind.i64.wrap ((j : Int) + 1) = (j : Int) + 1 := IntWalk.i64_in _ (by omega)
        obtain ⟨J, hJ⟩ := hJ
        have hJI : ((j : Int) * 512) = (J : Int) := by omega
        have g5 : IntKind.i64.wrap ((j : Int) * 512) = (J : Int) := by rw [hJI]; exact IntWalk.i64_in _ (by omega)
        have g1 : (0 : Int) ≤ (J : Int) := by omega
        have g2 : (J : Int) ≤ (4096 : Int) := by omega
        have g3 : J ≤ 4096 := by omega
        have g4 : ¬ cc = J := by omega
        rw [hJ] at HSG HSTEP
        have hJ2 : 4096 - J ≥ 512 := by omega
        clear hp hbw hsl hrl hkr hJ hJI
        generalize L.kb = kb at *
        generalize L.cb = cb at *
        generalize L.kr j = kr at *
        generalize 512 + (L.tl j).length = rc at *
        go_wp2_with fail
        refine wp_region_G (fun w' : World => w'.cell? ⟨g, 4, none⟩ = some (.slice (some ⟨kb, 0, none⟩) 8 cb) ∧ w'.cell? ⟨kb, j, none⟩ = some (.slice (some ⟨kr, 0, none⟩) 512 rc)) 12 13 #[false, false, false, false, false, false, false, false, false, false, false, false, false] (by kernel_rfl) rfl (by kernel_rfl) ?_
        have hS0 : (fun w' : World => w'.cell? ⟨g, 4, none⟩ = some (.slice (some ⟨kb, 0, none⟩) 8 cb) ∧ w'.cell? ⟨kb, j, none⟩ = some (.slice (some ⟨kr, 0, none⟩) 512 rc)) wr.drew := ⟨c4, y0⟩
        dsimp only at hS0
        refine wpAnyG_takeL (i := 0) (v := ?v1) (fuel := 12) (listed' := #[true, false, false, false, false, false, false, false, false, false, false, false, false]) rfl (by kernel_rfl) (fun _ _ _ h => h) (.inl ⟨by rfl, ?hy1⟩) (by assumption) (by kernel_rfl) ?rest1
        case hy1 => (intro w' hSw; (try dsimp only at hSw); go_simp; try with_reducible rfl)
        try simp only [Act.put, List.setIfInBounds_toArray, List.set_cons_zero, List.set_cons_succ]
        refine wpAnyG_takeL (i := 1) (v := ?v2) (fuel := 11) (listed' := #[true, true, false, false, false, false, false, false, false, false, false, false, false]) rfl (by kernel_rfl) (fun _ _ _ h => h) (.inl ⟨by rfl, ?hy2⟩) (by assumption) (by kernel_rfl) ?rest2
        case hy2 => (intro w' hSw; (try dsimp only at hSw); go_simp; try with_reducible rfl)
        try simp only [Act.put, List.setIfInBounds_toArray, List.set_cons_zero, List.set_cons_succ]
        refine wpAnyG_takeL (i := 2) (v := ?v3) (fuel := 10) (listed' := #[true, true, true, false, false, false, false, false, false, false, false, false, false]) rfl (by kernel_rfl) (fun _ _ _ h => h) (.inl ⟨by rfl, ?hy3⟩) (by assumption) (by kernel_rfl) ?rest3
        case hy3 => (intro w' hSw; (try dsimp only at hSw); go_simp; try with_reducible rfl)
        try simp only [Act.put, List.setIfInBounds_toArray, List.set_cons_zero, List.set_cons_succ]
        refine wpAnyG_takeL (i := 3) (v := ?v4) (fuel := 9) (listed' := #[true, true, true, true, false, false, false, false, false, false, false, false, false]) rfl (by kernel_rfl) (fun _ _ _ h => h) (.inl ⟨by rfl, ?hy4⟩) (by assumption) (by kernel_rfl) ?rest4
        case hy4 => (intro w' hSw; (try dsimp only at hSw); go_simp; try with_reducible rfl)
        try simp only [Act.put, List.setIfInBounds_toArray, List.set_cons_zero, List.set_cons_succ]
        refine wpAnyG_takeL (i := 4) (v := ?v5) (fuel := 8) (listed' := #[true, true, true, true, true, false, false, false, false, false, false, false, false]) rfl (by kernel_rfl) (fun _ _ _ h => h) (.inl ⟨by rfl, ?hy5⟩) (by assumption) (by kernel_rfl) ?rest5
        case hy5 => (intro w' hSw; (try dsimp only at hSw); go_simp; try with_reducible rfl)
        try simp only [Act.put, List.setIfInBounds_toArray, List.set_cons_zero, List.set_cons_succ]
        refine wpAnyG_takeL (i := 5) (v := ?v6) (fuel := 7) (listed' := #[true, true, true, true, true, true, false, false, false, false, false, false, false]) rfl (by kernel_rfl) (fun _ _ _ h => h) (.inl ⟨by rfl, ?hy6⟩) (by assumption) (by kernel_rfl) ?rest6
        case hy6 => (intro w' hSw; (try dsimp only at hSw); go_simp; try with_reducible rfl)
        try simp only [Act.put, List.setIfInBounds_toArray, List.set_cons_zero, List.set_cons_succ]
        refine wpAnyG_takeL (i := 6) (v := ?v7) (fuel := 6) (listed' := #[true, true, true, true, true, true, true, false, false, false, false, false, false]) rfl (by kernel_rfl) (fun _ _ _ h => h) (.inl ⟨by rfl, ?hy7⟩) (by assumption) (by kernel_rfl) ?rest7
        case hy7 => (intro w' hSw; (try dsimp only at hSw); go_simp; try with_reducible rfl)
        try simp only [Act.put, List.setIfInBounds_toArray, List.set_cons_zero, List.set_cons_succ]
        refine wpAnyG_takeL (i := 7) (v := ?v8) (fuel := 5) (listed' := #[true, true, true, true, true, true, true, true, false, false, false, false, false]) rfl (by kernel_rfl) (fun _ _ _ h => h) (.inl ⟨by rfl, ?hy8⟩) (by assumption) (by kernel_rfl) ?rest8
        case hy8 => (intro w' hSw; (try dsimp only at hSw); go_simp; try with_reducible rfl)
        try simp only [Act.put, List.setIfInBounds_toArray, List.set_cons_zero, List.set_cons_succ]
        refine wpAnyG_takeL (i := 8) (v := ?v9) (fuel := 4) (listed' := #[true, true, true, true, true, true, true, true, true, false, false, false, false]) rfl (by kernel_rfl) (fun _ _ _ h => h) (.inl ⟨by rfl, ?hy9⟩) (by assumption) (by kernel_rfl) ?rest9
        case hy9 => (intro w' hSw; (try dsimp only at hSw); go_simp; try with_reducible rfl)
        try simp only [Act.put, List.setIfInBounds_toArray, List.set_cons_zero, List.set_cons_succ]
        refine wpAnyG_takeL (i := 9) (v := ?v10) (fuel := 3) (listed' := #[true, true, true, true, true, true, true, true, true, true, false, false, false]) rfl (by kernel_rfl) (fun _ _ _ h => h) (.inl ⟨by rfl, ?hy10⟩) (by assumption) (by kernel_rfl) ?rest10
        case hy10 => (intro w' hSw; (try dsimp only at hSw); go_simp; try with_reducible rfl)
        try simp only [Act.put, List.setIfInBounds_toArray, List.set_cons_zero, List.set_cons_succ]
        refine wpAnyG_takeL (i := 10) (v := ?v11) (fuel := 2) (listed' := #[true, true, true, true, true, true, true, true, true, true, true, false, false]) rfl (by kernel_rfl) (fun _ _ _ h => h) (.inl ⟨by rfl, ?hy11⟩) (by assumption) (by kernel_rfl) ?rest11
        case hy11 => (intro w' hSw; (try dsimp only at hSw); go_simp; try with_reducible rfl)
        try simp only [Act.put, List.setIfInBounds_toArray, List.set_cons_zero, List.set_cons_succ]
        refine wpAnyG_takeL (i := 11) (v := ?v12) (fuel := 1) (listed' := #[true, true, true, true, true, true, true, true, true, true, true, true, false]) rfl (by kernel_rfl) (fun _ _ _ h => h) (.inl ⟨by rfl, ?hy12⟩) (by assumption) (by kernel_rfl) ?rest12
        case hy12 => (intro w' hSw; (try dsimp only at hSw); go_simp; try with_reducible rfl)
        try simp only [Act.put, List.setIfInBounds_toArray, List.set_cons_zero, List.set_cons_succ]
        refine wpAnyG_oneL (i := 12) (fuel := 0) (listed' := #[true, true, true, true, true, true, true, true, true, true, true, true, true]) rfl (by kernel_rfl) (by kernel_rfl) (by rfl) (fun K hK0 => ?_)
        have hK := Lib.hid hK0
        clear hK0
        refine wp_copyG (.tmp 48) (.tmp 53) 22 rfl 5 Try.underlying22 u8info kr 0 512 _ 512 _ _ ⟨ga, J, none⟩ (by rfl) (by rfl) _ HRW.out (seg xs J 512) HSG.out.1 (by omega) HSG.out.2 (by decide) HSG2.out ?_
        intro w' hrow hg
        have HG := Lib.hid (And.intro hrow hg)
        clear hrow hg
        refine hK.out _ _ (.inr (by decide)) ?_
        clear hK K hS0
        refine wpAnyG_done (by kernel_rfl) ?_ _
        go_wp2_with fail
        go_roundg (8 - (j + 1))
        case measure => have := HX.out.1; omega
        case rel =>
          obtain ⟨e1, e2⟩ := HSTEP.out w' HG.out.1 HG.out.2
          exact ⟨j + 1, by have := HX.out.1; omega, by go_num, e1, e2⟩
      · obtain rfl : j = 8 := by have := HX.out.1; omega
        rw [midS_all HR.out.1] at hp
        have HP8 := Lib.hid (And.intro hp hbw)
        clear hp hbw HX hlt
        go_wp2_with fail
        go_loopg [58] m (fun k i wr => ∃ j : Nat, j + k = m ∧ i = .int .i64 j ∧ ∃ bs, setBads (bad.take j) (List.replicate 8 false) = some bs ∧ PCx wr F g L (loadC xs bs) ∧ Below (w.heap.size + 1) w0 wr)
        case atStart => exact ⟨0, by omega, rfl, _, rfl, HP8.out.1, HP8.out.2⟩
        case round =>
          obtain ⟨j, hj, rfl, bs, hbs, hp, hbw⟩ := hrel
          have HY := Lib.hid (And.intro hj (And.intro hbs (And.intro hp hbw)))
          have HBW := Lib.hid (HC.out wr hbw).1
          obtain ⟨-, d0, -, -⟩ := HC.out wr hbw
          have c5 : wr.cell? ⟨g, 5, none⟩ = some (.slice (some ⟨L.kd, 0, none⟩) 8 L.cd) := hp.cells.2.2.2.2.2.1
          have hcd := hp.cd
          clear hj hbs hp hbw
          by_cases hlt : j < m
          · have hltI : (j : Int) < (m : Int) := by omega
            obtain ⟨i, hij⟩ : ∃ i, bad[j]? = some i := ⟨_, List.getElem?_eq_getElem (by rw [HR.out.2.2.2.2.1]; exact hlt)⟩
            obtain ⟨bd, rfl, hci⟩ := (HR.out.2.2.2.2.2.below HBW.out).at_ (k := j) (by rw [List.length_map, HR.out.2.2.2.2.1]; exact hlt)
            have ebm : (bad.map (Value.int .i64))[j]'(by rw [List.length_map, HR.out.2.2.2.2.1]; exact hlt) = .int .i64 i := by
              rw [List.getElem_map]
              congr 1
              exact (List.getElem?_eq_some_iff.1 hij).2
            rw [ebm] at hci
            clear ebm
            by_cases hi0 : i < 0
            · have t1 : decide (i < 0) = true := decide_eq_true hi0
              have hno := (setBads_at HY.out.2.1 hij).1 (.inl hi0)
              go_wp2_with fail
              go_ret2
              exact ⟨HBW.out, fun _ => rfl, fun c hc => by rw [HLS.out, hno] at hc; cases hc⟩
            · by_cases hi8 : (8 : Int) ≤ i
              · have t1 : decide (i < 0) = false := decide_eq_false hi0
                have t2 : decide ((8 : Int) ≤ i) = true := decide_eq_true hi8
                have hno := (setBads_at HY.out.2.1 hij).1 (.inr hi8)
                go_wp2_with fail
                go_ret2
                exact ⟨HBW.out, fun _ => rfl, fun c hc => by rw [HLS.out, hno] at hc; cases hc⟩
              · obtain ⟨q, rfl⟩ : ∃ q : Nat, i = (q : Int) := ⟨i.toNat, by omega⟩
                have hq8 : q < 8 := by omega
                have t1 : decide ((q : Int) < 0) = false := decide_eq_false hi0
                have t2 : decide ((8 : Int) ≤ (q : Int)) = false := decide_eq_false hi8
                have hyes := (setBads_at HY.out.2.1 hij).2 (by omega)
                rw [Int.toNat_natCast] at hyes
                have hb := badset_pc HY.out.2.2.1 hq8
                obtain ⟨x, hx, y0⟩ := HY.out.2.2.1.badAt (b := q) hq8
                have hfz := HY.out.2.2.1.kd.frozen q
                have hkd := HF.out _ HY.out.2.2.1.i1.2.1
                have hbw2 := HY.out.2.2.2.setCell (p := ⟨L.kd, q, none⟩) hkd.1 (.bool true)
                have HN := Lib.hid (And.intro hyes (And.intro hb hbw2))
                clear hyes hb hx hbw2 hkd hij
                have hjw : IntKind.i64.wrap ((j : Int) + 1) = (j : Int) + 1 := IntWalk.i64_in _ (by omega)
                generalize L.kd = kd at *
                go_wp2_with fail
                go_roundg (m - (j + 1))
                case measure => have := HY.out.1; omega
                case rel => exact ⟨j + 1, by have := HY.out.1; omega, by go_num, _, HN.out.1, HN.out.2.1, HN.out.2.2⟩
          · obtain rfl : j = m := by have := HY.out.1; omega
            have hge : ¬ (j : Int) < (j : Int) := by omega
            have hall := HY.out.2.1
            rw [← HR.out.2.2.2.2.1, List.take_length] at hall
            have hfin : PC wr (fsh w wr) g (loadC xs bs) := ⟨L, HY.out.2.2.1.mono (fun k hk => ⟨by have := (HF.out k hk).1; omega, HY.out.2.2.1.lt k hk⟩) (fun k hk => hk.2)⟩
            have HFN := Lib.hid (And.intro hfin (And.intro HBW.out hall))
            clear hfin hall
            go_wp2_with fail
            go_ret2
            refine ⟨HFN.out.2.1, fun h => (by rw [HLS.out, HFN.out.2.2] at h; cases h), fun c hc => ?_⟩
            rw [HLS.out, HFN.out.2.2] at hc
            obtain rfl : loadC xs bs = c := by simpa using hc
            exact ⟨g, rfl, HFN.out.1⟩
  · have hne : ¬ (n : Int) = 4096 := by omega
    have t1 : decide ((n : Int) = 4096) = false := decide_eq_false hne
    have hno : loadS xs bad = none := if_neg (by rw [HR.out.1]; exact hx)
    have HFN := Lib.hid (And.intro hno (HC.out w1 H1.out.2).1)
    clear hno
    go_wp2_with fail
    go_ret2
    exact ⟨HFN.out.2, fun _ => rfl, fun c hc => by rw [HFN.out.1] at hc; cases hc⟩
end Go.Proofs.Ytlcdabmclcfagaa
