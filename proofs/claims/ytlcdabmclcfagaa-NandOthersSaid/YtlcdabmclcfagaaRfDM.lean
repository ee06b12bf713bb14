import Derived.Test.YtlcdabmclcfagaaRfEM
import Derived.Test.YtlcdabmclcfagaaMOrd
set_option linter.unusedVariables false
set_option linter.unusedSimpArgs false
/- Layer 3: the document's done: contract. -/
namespace Go.Proofs.Ytlcdabmclcfagaa
open Go.RowKit

theorem grown_drew (w : World) (row : Option Nat) : w.grownBy w.drew row := ⟨rfl, rfl, rfl, Nat.le_refl _, fun _ _ _ => rfl⟩
set_option maxRecDepth 100000 in
set_option maxHeartbeats 1000000 in
theorem rdone_any {w : World} {F : Nat → Prop} {r : Nat} {L : RLay} {c : Chp} (h : RCx w F r L c) {b at_ n cap : Nat} (hb : b < c.B) (ho : at_ + n ≤ c.B * c.N) (hn : n ≤ 8192) (hmk : ∀ x ∈ c.hits, x.mask.length ≤ 140737488355328) (ws : List UInt8) (hws : ws.length = n) (A : Option Addr) (hr : RV w A (bv ws)) (hoff : ∀ ad, A = some ad → 0 < n → ¬ F ad.block) :
    Calls Try.prog 54 #[.pointer (some ⟨r, 0, none⟩), .int .i64 (b : Int), .int .i64 (at_ : Int), .slice A n cap] w (RDoneEnd w F r (doneS c b at_ ws)) := by
  have HK := Lib.hid (struck_any h)
  have hMb := h.ok.n.2.2
  have hlen := h.ok.len
  have H := Lib.hid (And.intro h (And.intro hb (And.intro ho (And.intro hws (And.intro hr hoff)))))
  obtain ⟨R, hR⟩ : ∃ R, doneS c b at_ ws = R := ⟨_, rfl⟩
  rw [hR]
  have HR := Lib.hid hR
  have hss := strikeS_same c
  obtain ⟨old, hold⟩ : ∃ old, seg c.bytes at_ n = old := ⟨_, rfl⟩
  obtain ⟨hs, hhs⟩ : ∃ hs, (strikeS c).1 = hs := ⟨_, rfl⟩
  obtain ⟨mix, hmix⟩ : ∃ mix, mixL hs old ws = mix := ⟨_, rfl⟩
  have HAT := Lib.hid (show ∀ j, j < n → _ from fun j hj => done_at (l := c.bytes) (old := old) (mix := mix) (ws := ws) (tb := L.tb) (hs := hs) (at_ := at_) (n := n) hold (by rw [hlen]; exact ho) hws hmix (j := j) hj)
  have HM := Lib.hid (And.intro hold hmix)
  clear h hb ho hws hr hoff hR hold hmix
  go_enter Try.func54, Try.ntmps54
  go_wp2_with fail
  refine HK.out.mono ?_
  rintro e w1 ⟨v, A', ch', rfl, hrc, hg, hit⟩
  rw [hhs] at hit ⊢
  have hrow1 := hrc.kb
  rw [hss.2.2.2.2.1] at hrow1
  have HRC := Lib.hid (And.intro hrc (And.intro hg hhs))
  clear HK
  cases hs with
  | none =>
    obtain rfl := hit
    have hST : RowB 5 (w1.alloc (.cells #[.int .i64 0, .bool false, .slice none 0 0] 36)) L.kb (spl c.bytes at_ (upto old mix 0) ++ L.tb) := by
      rw [upto_zero, ← HM.out.1, spl_self (by rw [hlen]; exact H.out.2.2.1)]
      exact hrow1.alloc _
    have HST := Lib.hid hST
    have hbg := (Below.refl w1.heap.size w1).alloc (Nat.le_refl _) (.cells #[.int .i64 0, .bool false, .slice none 0 0] 36)
    have hrc2 := hrc.below hbg
    have hG := Blk.new w1 36 #[.int .i64 0, .bool false, .slice none 0 0]
    have hkb1 : L.kb < w1.heap.size := hrc.lt _ hrc.i1.2.1
    have hrk : r ≠ L.kb := hrc.f1.1
    have hg2 : w.grownBy (w1.alloc (.cells #[.int .i64 0, .bool false, .slice none 0 0] 36)) (some r) := grown_alloc hg _
    have HC4 := Lib.hid (show ∀ wx, (w1.alloc (.cells #[.int .i64 0, .bool false, .slice none 0 0] 36)).grownBy wx (some L.kb) → wx.cell? ⟨r, 4, none⟩ = some (.slice (some ⟨L.kb, 0, none⟩) (c.B * c.N) (c.B * c.N + L.tb.length)) from fun wx hgx => by
      have h4 := (hrc2.blk.grown hgx (fun e => hrk (by injection e))).cell 4
      simpa [refCells, Chp.N, hss.1, hss.2.1, hss.2.2.1] using h4)
    have HYA := Lib.hid (show ∀ j y, ws[j]? = some y → ∃ ad, A = some ad ∧ ∀ wx, (w1.alloc (.cells #[.int .i64 0, .bool false, .slice none 0 0] 36)).grownBy wx (some L.kb) → wx.cell? (ad.add j) = some (.int .u8 (y.toNat : Int)) from fun j y hy => by
      have hj := (List.getElem?_eq_some_iff.1 hy).1
      obtain ⟨ad, hA, hc⟩ := H.out.2.2.2.2.1 (by rw [bv_length]; omega)
      have hnF := H.out.2.2.2.2.2 ad hA (by have := H.out.2.2.2.1; omega)
      have hlt := H.out.2.2.2.2.1.lt hA (by rw [bv_length]; omega)
      have e1 := hg2.block ad.block hlt (fun e => hnF (by injection e with e; rw [e]; exact H.out.1.i1.1))
      refine ⟨ad, hA, fun wx hgx => ?_⟩
      have e2 := hgx.block ad.block (Nat.lt_of_lt_of_le hlt hg2.size) (fun e => hnF (by injection e with e; rw [e]; exact H.out.1.i1.2.1))
      exact (World.cell?_of_block (by rw [block_add]; exact e2.trans e1)).trans (hc j _ (by rw [bv_get, hy]; rfl)))
    have H2 := Lib.hid (And.intro hrc2 (And.intro hg2 (And.intro hss hhs)))
    clear hST hrow1 hrc hg hss hhs hbg hrc2 hG hkb1 hrk hg2
    obtain ⟨w2, hw2⟩ : ∃ w2, w2 = w1.alloc (.cells #[.int .i64 0, .bool false, .slice none 0 0] 36) := ⟨_, rfl⟩
    rw [← hw2] at HST HC4 HYA H2
    go_wp2_with fail
    rw [← hw2]
    go_wp2_with fail
    go_loopg [11] n (fun q i wr => ∃ j : Nat, j + q = n ∧ i = .int .i64 j ∧ RowB 5 wr L.kb (spl c.bytes at_ (upto old mix j) ++ L.tb) ∧ w2.grownBy wr (some L.kb))
    case atStart => exact ⟨0, by omega, rfl, HST.out, World.grownBy.refl _ _⟩
    case round =>
      obtain ⟨j, hj, rfl, hrow, hgr⟩ := hrel
      have HX := Lib.hid (And.intro hj (And.intro hrow hgr))
      clear hj hrow hgr
      by_cases hlt : j < n
      · have hjI : (j : Int) < (n : Int) := by omega
        obtain ⟨o, y, hyj, ho1, ho2, hda⟩ := HAT.out j hlt
        have HO := Lib.hid (And.intro ho1 ho2)
        have HDA := Lib.hid hda
        clear ho1 ho2 hda
        go_wp2_with fail
        go_loopg [12] 8 (fun q i wx => ∃ k x, k + q = 8 ∧ i = .int .i64 (k : Nat) ∧ Part k (maskAt none j) o y x ∧ RowB 5 wx L.kb (spl c.bytes at_ ((upto old mix j).set j x) ++ L.tb) ∧ w2.grownBy wx (some L.kb))
        case atStart => exact ⟨0, o, rfl, rfl, Part.zero _ _ _, by rw [HO.out.1]; exact HX.out.2.1, HX.out.2.2⟩
        case round =>
          obtain ⟨k, x, hk, rfl, hpart, hrow, hgr⟩ := hrel
          have HI := Lib.hid (And.intro hk (And.intro hpart (And.intro hrow hgr)))
          by_cases hk8 : k < 8
          · have hk8I : (k : Int) < 8 := by omega
            have hjw : IntKind.i64.wrap ((k : Int) + 1) = (k : Int) + 1 := IntWalk.i64_in _ (by omega)
            have hbit : bt (maskAt none j) k = true := bt255 k hk8
            clear hk hpart hrow hgr
            have HSTP := Lib.hid (show Part (k + 1) (maskAt none j) o y (mixB (oneB k) x y) ∧ RowB 5 (wr.drew.setCell ⟨L.kb, at_ + j, none⟩ (.int .u8 ((mixB (oneB k) x y).toNat : Int))) L.kb (spl c.bytes at_ ((upto old mix j).set j (mixB (oneB k) x y)) ++ L.tb) ∧ w2.grownBy (wr.drew.setCell ⟨L.kb, at_ + j, none⟩ (.int .u8 ((mixB (oneB k) x y).toNat : Int))) (some L.kb) from by
              refine ⟨Part.step hk8 HI.out.2.1 hbit, ?_, ?_⟩
              · have h1 : RowB 5 wr.drew L.kb (spl c.bytes at_ ((upto old mix j).set j x) ++ L.tb) := HI.out.2.2.1
                have h2 := h1.set (at_ + j) (mixB (oneB k) x y)
                rwa [(HDA.out x).2] at h2
              · exact grown_trans (grown_trans HI.out.2.2.2 (grown_drew wr _)) (grown_setCell _ _ _ _))
            have hbits := mixB_bits (oneB k) x y
            have hone := oneB_lt k hk8
            have hcell : wr.cell? ⟨L.kb, at_ + j, none⟩ = some (.int .u8 (x.toNat : Int)) := HI.out.2.2.1.cell (HDA.out x).1
            have hfz := HI.out.2.2.1.frozen (at_ + j)
            have c4 : wr.cell? ⟨r, 4, none⟩ = some (.slice (some ⟨L.kb, 0, none⟩) (c.B * c.N) (c.B * c.N + L.tb.length)) := HC4.out wr HI.out.2.2.2
            obtain ⟨ad, rfl, hya⟩ := HYA.out j y hyj
            have hcy : wr.cell? (ad.add j) = some (.int .u8 (y.toNat : Int)) := hya wr HI.out.2.2.2
            clear hya
            obtain ⟨q, hq⟩ : ∃ q, at_ + j = q := ⟨_, rfl⟩
            have hqM : q < c.B * c.N := by have := H.out.2.2.1; omega
            have hqI : (q : Int) < ((c.B * c.N : Nat) : Int) := by omega
            have hq0 : (0 : Int) ≤ (q : Int) := by omega
            have wq : IntKind.i64.wrap ((at_ : Int) + (j : Int)) = (q : Int) := by rw [show (at_ : Int) + (j : Int) = (q : Int) by omega]; exact IntWalk.i64_in _ (by omega)
            rw [hq] at hcell hfz HSTP
            have hone2 : (2 : Int) ^ k % 256 = ((oneB k).toNat : Int) := by
              rw [← hone]
              have := (oneB k).toNat_lt
              omega
            have HONE := Lib.hid hone2
            clear hq hone hone2
            generalize mixB (oneB k) x y = nx at *
            generalize oneB k = one at *
            generalize c.B * c.N = M at *
            generalize L.kb = kb at *
            generalize M + L.tb.length = cp at *
            go_wp2_with fail
            rw [HONE.out]
            refine wp_region_G (fun w' : World => w'.cell? ⟨r, 4, none⟩ = some (.slice (some ⟨kb, 0, none⟩) M cp) ∧ w'.cell? ⟨kb, q, none⟩ = some (.int .u8 (x.toNat : Int)) ∧ w'.cell? (ad.add j) = some (.int .u8 (y.toNat : Int)) ∧ w'.frozen? ⟨kb, q, none⟩ = false) 26 27 #[false, false, false, false, false, false, false, false, false, false, false, false, false, false, false, false, false, false, false, false, false, false, false, false, false, false, false] (by kernel_rfl) rfl (by kernel_rfl) ?_
            have hS0 : (fun w' : World => w'.cell? ⟨r, 4, none⟩ = some (.slice (some ⟨kb, 0, none⟩) M cp) ∧ w'.cell? ⟨kb, q, none⟩ = some (.int .u8 (x.toNat : Int)) ∧ w'.cell? (ad.add j) = some (.int .u8 (y.toNat : Int)) ∧ w'.frozen? ⟨kb, q, none⟩ = false) wr.drew := ⟨c4, hcell, hcy, hfz⟩
            dsimp only at hS0
            refine wpAnyG_takeL (i := 0) (v := ?nv1) (fuel := 26) (listed' := #[true, false, false, false, false, false, false, false, false, false, false, false, false, false, false, false, false, false, false, false, false, false, false, false, false, false, false]) rfl (by kernel_rfl) (fun _ _ _ h => h) (.inl ⟨by rfl, ?nhy1⟩) (by assumption) (by kernel_rfl) ?nrest1
            case nhy1 => (intro w' hSw; (try dsimp only at hSw); go_simp; try with_reducible rfl)
            try simp only [Act.put, List.setIfInBounds_toArray, List.set_cons_zero, List.set_cons_succ]
            refine wpAnyG_takeL (i := 1) (v := ?nv2) (fuel := 25) (listed' := #[true, true, false, false, false, false, false, false, false, false, false, false, false, false, false, false, false, false, false, false, false, false, false, false, false, false, false]) rfl (by kernel_rfl) (fun _ _ _ h => h) (.inl ⟨by rfl, ?nhy2⟩) (by assumption) (by kernel_rfl) ?nrest2
            case nhy2 => (intro w' hSw; (try dsimp only at hSw); go_simp; try with_reducible rfl)
            try simp only [Act.put, List.setIfInBounds_toArray, List.set_cons_zero, List.set_cons_succ]
            refine wpAnyG_takeL (i := 2) (v := ?nv3) (fuel := 24) (listed' := #[true, true, true, false, false, false, false, false, false, false, false, false, false, false, false, false, false, false, false, false, false, false, false, false, false, false, false]) rfl (by kernel_rfl) (fun _ _ _ h => h) (.inl ⟨by rfl, ?nhy3⟩) (by assumption) (by kernel_rfl) ?nrest3
            case nhy3 => (intro w' hSw; (try dsimp only at hSw); go_simp; try with_reducible rfl)
            try simp only [Act.put, List.setIfInBounds_toArray, List.set_cons_zero, List.set_cons_succ]
            refine wpAnyG_takeL (i := 3) (v := ?nv4) (fuel := 23) (listed' := #[true, true, true, true, false, false, false, false, false, false, false, false, false, false, false, false, false, false, false, false, false, false, false, false, false, false, false]) rfl (by kernel_rfl) (fun _ _ _ h => h) (.inl ⟨by rfl, ?nhy4⟩) (by assumption) (by kernel_rfl) ?nrest4
            case nhy4 => (intro w' hSw; (try dsimp only at hSw); go_simp; try with_reducible rfl)
            try simp only [Act.put, List.setIfInBounds_toArray, List.set_cons_zero, List.set_cons_succ]
            refine wpAnyG_takeL (i := 4) (v := ?nv5) (fuel := 22) (listed' := #[true, true, true, true, true, false, false, false, false, false, false, false, false, false, false, false, false, false, false, false, false, false, false, false, false, false, false]) rfl (by kernel_rfl) (fun _ _ _ h => h) (.inl ⟨by rfl, ?nhy5⟩) (by assumption) (by kernel_rfl) ?nrest5
            case nhy5 => (intro w' hSw; (try dsimp only at hSw); go_simp; try with_reducible rfl)
            try simp only [Act.put, List.setIfInBounds_toArray, List.set_cons_zero, List.set_cons_succ]
            refine wpAnyG_takeL (i := 5) (v := ?nv6) (fuel := 21) (listed' := #[true, true, true, true, true, true, false, false, false, false, false, false, false, false, false, false, false, false, false, false, false, false, false, false, false, false, false]) rfl (by kernel_rfl) (fun _ _ _ h => h) (.inl ⟨by rfl, ?nhy6⟩) (by assumption) (by kernel_rfl) ?nrest6
            case nhy6 => (intro w' hSw; (try dsimp only at hSw); go_simp; try with_reducible rfl)
            try simp only [Act.put, List.setIfInBounds_toArray, List.set_cons_zero, List.set_cons_succ]
            refine wpAnyG_takeL (i := 6) (v := ?nv7) (fuel := 20) (listed' := #[true, true, true, true, true, true, true, false, false, false, false, false, false, false, false, false, false, false, false, false, false, false, false, false, false, false, false]) rfl (by kernel_rfl) (fun _ _ _ h => h) (.inl ⟨by rfl, ?nhy7⟩) (by assumption) (by kernel_rfl) ?nrest7
            case nhy7 => (intro w' hSw; (try dsimp only at hSw); go_simp; try with_reducible rfl)
            try simp only [Act.put, List.setIfInBounds_toArray, List.set_cons_zero, List.set_cons_succ]
            refine wpAnyG_takeL (i := 7) (v := ?nv8) (fuel := 19) (listed' := #[true, true, true, true, true, true, true, true, false, false, false, false, false, false, false, false, false, false, false, false, false, false, false, false, false, false, false]) rfl (by kernel_rfl) (fun _ _ _ h => h) (.inl ⟨by rfl, ?nhy8⟩) (by assumption) (by kernel_rfl) ?nrest8
            case nhy8 => (intro w' hSw; (try dsimp only at hSw); go_simp; try with_reducible rfl)
            try simp only [Act.put, List.setIfInBounds_toArray, List.set_cons_zero, List.set_cons_succ]
            refine wpAnyG_takeL (i := 8) (v := ?nv9) (fuel := 18) (listed' := #[true, true, true, true, true, true, true, true, true, false, false, false, false, false, false, false, false, false, false, false, false, false, false, false, false, false, false]) rfl (by kernel_rfl) (fun _ _ _ h => h) (.inl ⟨by rfl, ?nhy9⟩) (by assumption) (by kernel_rfl) ?nrest9
            case nhy9 => (intro w' hSw; (try dsimp only at hSw); go_simp; try with_reducible rfl)
            try simp only [Act.put, List.setIfInBounds_toArray, List.set_cons_zero, List.set_cons_succ]
            refine wpAnyG_takeL (i := 9) (v := ?nv10) (fuel := 17) (listed' := #[true, true, true, true, true, true, true, true, true, true, false, false, false, false, false, false, false, false, false, false, false, false, false, false, false, false, false]) rfl (by kernel_rfl) (fun _ _ _ h => h) (.inl ⟨by rfl, ?nhy10⟩) (by assumption) (by kernel_rfl) ?nrest10
            case nhy10 => (intro w' hSw; (try dsimp only at hSw); go_simp; try with_reducible rfl)
            try simp only [Act.put, List.setIfInBounds_toArray, List.set_cons_zero, List.set_cons_succ]
            refine wpAnyG_takeL (i := 10) (v := ?nv11) (fuel := 16) (listed' := #[true, true, true, true, true, true, true, true, true, true, true, false, false, false, false, false, false, false, false, false, false, false, false, false, false, false, false]) rfl (by kernel_rfl) (fun _ _ _ h => h) (.inl ⟨by rfl, ?nhy11⟩) (by assumption) (by kernel_rfl) ?nrest11
            case nhy11 => (intro w' hSw; (try dsimp only at hSw); go_simp; try with_reducible rfl)
            try simp only [Act.put, List.setIfInBounds_toArray, List.set_cons_zero, List.set_cons_succ]
            refine wpAnyG_takeL (i := 11) (v := ?nv12) (fuel := 15) (listed' := #[true, true, true, true, true, true, true, true, true, true, true, true, false, false, false, false, false, false, false, false, false, false, false, false, false, false, false]) rfl (by kernel_rfl) (fun _ _ _ h => h) (.inl ⟨by rfl, ?nhy12⟩) (by assumption) (by kernel_rfl) ?nrest12
            case nhy12 => (intro w' hSw; (try dsimp only at hSw); go_simp; try with_reducible rfl)
            try simp only [Act.put, List.setIfInBounds_toArray, List.set_cons_zero, List.set_cons_succ]
            refine wpAnyG_takeL (i := 12) (v := ?nv13) (fuel := 14) (listed' := #[true, true, true, true, true, true, true, true, true, true, true, true, true, false, false, false, false, false, false, false, false, false, false, false, false, false, false]) rfl (by kernel_rfl) (fun _ _ _ h => h) (.inl ⟨by rfl, ?nhy13⟩) (by assumption) (by kernel_rfl) ?nrest13
            case nhy13 => (intro w' hSw; (try dsimp only at hSw); go_simp; try with_reducible rfl)
            try simp only [Act.put, List.setIfInBounds_toArray, List.set_cons_zero, List.set_cons_succ]
            refine wpAnyG_takeL (i := 13) (v := ?nv14) (fuel := 13) (listed' := #[true, true, true, true, true, true, true, true, true, true, true, true, true, true, false, false, false, false, false, false, false, false, false, false, false, false, false]) rfl (by kernel_rfl) (fun _ _ _ h => h) (.inl ⟨by rfl, ?nhy14⟩) (by assumption) (by kernel_rfl) ?nrest14
            case nhy14 => (intro w' hSw; (try dsimp only at hSw); go_simp; try with_reducible rfl)
            try simp only [Act.put, List.setIfInBounds_toArray, List.set_cons_zero, List.set_cons_succ]
            refine wpAnyG_takeL (i := 14) (v := ?nv15) (fuel := 12) (listed' := #[true, true, true, true, true, true, true, true, true, true, true, true, true, true, true, false, false, false, false, false, false, false, false, false, false, false, false]) rfl (by kernel_rfl) (fun _ _ _ h => h) (.inl ⟨by rfl, ?nhy15⟩) (by assumption) (by kernel_rfl) ?nrest15
            case nhy15 => (intro w' hSw; (try dsimp only at hSw); go_simp; try with_reducible rfl)
            try simp only [Act.put, List.setIfInBounds_toArray, List.set_cons_zero, List.set_cons_succ]
            refine wpAnyG_takeL (i := 15) (v := ?nv16) (fuel := 11) (listed' := #[true, true, true, true, true, true, true, true, true, true, true, true, true, true, true, true, false, false, false, false, false, false, false, false, false, false, false]) rfl (by kernel_rfl) (fun _ _ _ h => h) (.inl ⟨by rfl, ?nhy16⟩) (by assumption) (by kernel_rfl) ?nrest16
            case nhy16 => (intro w' hSw; (try dsimp only at hSw); go_simp; try with_reducible rfl)
            try simp only [Act.put, List.setIfInBounds_toArray, List.set_cons_zero, List.set_cons_succ]
            refine wpAnyG_takeL (i := 16) (v := ?nv17) (fuel := 10) (listed' := #[true, true, true, true, true, true, true, true, true, true, true, true, true, true, true, true, true, false, false, false, false, false, false, false, false, false, false]) rfl (by kernel_rfl) (fun _ _ _ h => h) (.inl ⟨by rfl, ?nhy17⟩) (by assumption) (by kernel_rfl) ?nrest17
            case nhy17 => (intro w' hSw; (try dsimp only at hSw); go_simp; try with_reducible rfl)
            try simp only [Act.put, List.setIfInBounds_toArray, List.set_cons_zero, List.set_cons_succ]
            refine wpAnyG_takeL (i := 17) (v := ?nv18) (fuel := 9) (listed' := #[true, true, true, true, true, true, true, true, true, true, true, true, true, true, true, true, true, true, false, false, false, false, false, false, false, false, false]) rfl (by kernel_rfl) (fun _ _ _ h => h) (.inl ⟨by rfl, ?nhy18⟩) (by assumption) (by kernel_rfl) ?nrest18
            case nhy18 => (intro w' hSw; (try dsimp only at hSw); go_simp; try with_reducible rfl)
            try simp only [Act.put, List.setIfInBounds_toArray, List.set_cons_zero, List.set_cons_succ]
            refine wpAnyG_takeL (i := 18) (v := ?nv19) (fuel := 8) (listed' := #[true, true, true, true, true, true, true, true, true, true, true, true, true, true, true, true, true, true, true, false, false, false, false, false, false, false, false]) rfl (by kernel_rfl) (fun _ _ _ h => h) (.inl ⟨by rfl, ?nhy19⟩) (by assumption) (by kernel_rfl) ?nrest19
            case nhy19 => (intro w' hSw; (try dsimp only at hSw); go_simp; try with_reducible rfl)
            try simp only [Act.put, List.setIfInBounds_toArray, List.set_cons_zero, List.set_cons_succ]
            refine wpAnyG_takeL (i := 19) (v := ?nv20) (fuel := 7) (listed' := #[true, true, true, true, true, true, true, true, true, true, true, true, true, true, true, true, true, true, true, true, false, false, false, false, false, false, false]) rfl (by kernel_rfl) (fun _ _ _ h => h) (.inl ⟨by rfl, ?nhy20⟩) (by assumption) (by kernel_rfl) ?nrest20
            case nhy20 => (intro w' hSw; (try dsimp only at hSw); go_simp; try with_reducible rfl)
            try simp only [Act.put, List.setIfInBounds_toArray, List.set_cons_zero, List.set_cons_succ]
            refine wpAnyG_takeL (i := 20) (v := ?nv21) (fuel := 6) (listed' := #[true, true, true, true, true, true, true, true, true, true, true, true, true, true, true, true, true, true, true, true, true, false, false, false, false, false, false]) rfl (by kernel_rfl) (fun _ _ _ h => h) (.inl ⟨by rfl, ?nhy21⟩) (by assumption) (by kernel_rfl) ?nrest21
            case nhy21 => (intro w' hSw; (try dsimp only at hSw); go_simp; try with_reducible rfl)
            try simp only [Act.put, List.setIfInBounds_toArray, List.set_cons_zero, List.set_cons_succ]
            refine wpAnyG_takeL (i := 21) (v := ?nv22) (fuel := 5) (listed' := #[true, true, true, true, true, true, true, true, true, true, true, true, true, true, true, true, true, true, true, true, true, true, false, false, false, false, false]) rfl (by kernel_rfl) (fun _ _ _ h => h) (.inl ⟨by rfl, ?nhy22⟩) (by assumption) (by kernel_rfl) ?nrest22
            case nhy22 => (intro w' hSw; (try dsimp only at hSw); go_simp; try with_reducible rfl)
            try simp only [Act.put, List.setIfInBounds_toArray, List.set_cons_zero, List.set_cons_succ]
            refine wpAnyG_takeL (i := 22) (v := ?nv23) (fuel := 4) (listed' := #[true, true, true, true, true, true, true, true, true, true, true, true, true, true, true, true, true, true, true, true, true, true, true, false, false, false, false]) rfl (by kernel_rfl) (fun _ _ _ h => h) (.inl ⟨by rfl, ?nhy23⟩) (by assumption) (by kernel_rfl) ?nrest23
            case nhy23 => (intro w' hSw; (try dsimp only at hSw); go_simp; try with_reducible rfl)
            try simp only [Act.put, List.setIfInBounds_toArray, List.set_cons_zero, List.set_cons_succ]
            refine wpAnyG_takeL (i := 23) (v := ?nv24) (fuel := 3) (listed' := #[true, true, true, true, true, true, true, true, true, true, true, true, true, true, true, true, true, true, true, true, true, true, true, true, false, false, false]) rfl (by kernel_rfl) (fun _ _ _ h => h) (.inl ⟨by rfl, ?nhy24⟩) (by assumption) (by kernel_rfl) ?nrest24
            case nhy24 => (intro w' hSw; (try dsimp only at hSw); go_simp; try with_reducible rfl)
            try simp only [Act.put, List.setIfInBounds_toArray, List.set_cons_zero, List.set_cons_succ]
            refine wpAnyG_takeL (i := 24) (v := ?nv25) (fuel := 2) (listed' := #[true, true, true, true, true, true, true, true, true, true, true, true, true, true, true, true, true, true, true, true, true, true, true, true, true, false, false]) rfl (by kernel_rfl) (fun _ _ _ h => h) (.inl ⟨by rfl, ?nhy25⟩) (by assumption) (by kernel_rfl) ?nrest25
            case nhy25 => (intro w' hSw; (try dsimp only at hSw); go_simp; try with_reducible rfl)
            try simp only [Act.put, List.setIfInBounds_toArray, List.set_cons_zero, List.set_cons_succ]
            refine wpAnyG_takeL (i := 25) (v := ?nv26) (fuel := 1) (listed' := #[true, true, true, true, true, true, true, true, true, true, true, true, true, true, true, true, true, true, true, true, true, true, true, true, true, true, false]) rfl (by kernel_rfl) (fun _ _ _ h => h) (.inl ⟨by rfl, ?nhy26⟩) (by assumption) (by kernel_rfl) ?nrest26
            case nhy26 => (intro w' hSw; (try dsimp only at hSw); go_simp; try with_reducible rfl)
            try simp only [Act.put, List.setIfInBounds_toArray, List.set_cons_zero, List.set_cons_succ]
            have hst : wr.drew.cell? ⟨kb, q, none⟩ = some (.int .u8 (x.toNat : Int)) := hcell
            have hfr : wr.drew.frozen? ⟨kb, q, none⟩ = false := hfz
            refine wpAnyG_oneL (i := 26) (fuel := 0) (listed' := #[true, true, true, true, true, true, true, true, true, true, true, true, true, true, true, true, true, true, true, true, true, true, true, true, true, true, true]) rfl (by kernel_rfl) (by kernel_rfl) (by rfl) (fun K hK0 => ?_)
            have hK := Lib.hid hK0
            clear hK0
            go_simp
            refine hK.out _ _ (.inr (by decide)) ?_
            clear hK K hS0
            refine wpAnyG_done (by kernel_rfl) ?_ _
            go_wp2_with fail
            go_roundg (8 - (k + 1))
            case measure => have := HI.out.1; omega
            case rel => exact ⟨k + 1, _, by have := HI.out.1; omega, by go_num, HSTP.out.1, HSTP.out.2.1, HSTP.out.2.2⟩
          · obtain rfl : k = 8 := by omega
            have hx : x = mixB (maskAt none j) o y := Part.all hpart
            clear hk hpart hrow hgr
            have hjw : IntKind.i64.wrap ((j : Int) + 1) = (j : Int) + 1 := IntWalk.i64_in _ (by omega)
            have HE := Lib.hid (show RowB 5 wr L.kb (spl c.bytes at_ (upto old mix (j + 1)) ++ L.tb) from by rw [← HO.out.2, ← hx]; exact HI.out.2.2.1)
            clear hx
            go_wp2_with fail
            go_roundg (n - (j + 1))
            case measure => have := HX.out.1; omega
            case rel => exact ⟨j + 1, by have := HX.out.1; omega, by go_num, HE.out, HI.out.2.2.2⟩
      · obtain rfl : j = n := by have := HX.out.1; omega
        have hol : old.length = j := by rw [← HM.out.1]; exact seg_len (by rw [hlen]; exact H.out.2.2.1)
        have hml : mix.length = old.length := by rw [← HM.out.2, mixL_len (by rw [hol, H.out.2.2.2.1])]
        have hfull := HX.out.2.1
        rw [show upto old mix j = mix by rw [← hol]; exact upto_all hml] at hfull
        have hss := H2.out.2.2.1
        have hrcx := H2.out.1.bytset HX.out.2.2.size (bs := spl c.bytes at_ mix) (by rw [spl_len (by rw [hml, hol, hlen]; exact H.out.2.2.1), hss.2.2.2.2.1]) (grown_ne HX.out.2.2) hfull
        have htch : Tch F w wr := (Tch.of_grown (F := F) H2.out.2.1 (fun k e _ => by injection e with e; rw [← e]; exact H.out.1.i1.1)).then (Tch.of_grown (F := F) HX.out.2.2 (fun k e _ => by injection e with e; rw [← e]; exact H.out.1.i1.2.1)) (fun _ _ h => h)
        have hge : ¬ (j : Int) < (j : Int) := by omega
        have HEND := Lib.hid (And.intro hrcx htch)
        have c5 := hrcx.cells.2.2.2.2.2.1
        have c8f := hrcx.blk.frozen 8
        have c8 := hrcx.cells.2.2.2.2.2.2.2.2.1
        have hmx : mixL none (seg c.bytes at_ ws.length) ws = mix := by rw [H.out.2.2.2.1, HM.out.1, HM.out.2]
        have hst1 := H2.out.2.2.2
        have c5' : wr.cell? ⟨r, 5, none⟩ = some (.slice (some ⟨L.kd, 0, none⟩) c.B L.cd) := by simpa [hss.1] using c5
        have hcd := hrcx.cd.1
        obtain ⟨x0, hx0, y0⟩ := hrcx.badAt (b := b) (by show b < (strikeS c).2.B; rw [hss.1]; exact H.out.2.1)
        have y0' : wr.cell? ⟨L.kd, b, none⟩ = some (.bool x0) := y0
        have hkf : wr.frozen? ⟨L.kd, b, none⟩ = false := hrcx.kd.frozen b
        have hbI : (b : Int) < (c.B : Int) := by have := H.out.2.1; omega
        have HMX := Lib.hid (And.intro hmx hst1)
        clear hol hml hfull hrcx htch c5 y0 hx0 hmx hst1
        go_wp2_with fail
        go_ret
        have hrr : R = ({(strikeS c).2 with bytes := spl c.bytes at_ mix}, 0) := by
          rw [← HR.out]
          unfold doneS
          simp only [HMX.out.2]
          rw [HMX.out.1]
        rw [hrr]
        exact ⟨rfl, ⟨_, HEND.out.1⟩, HEND.out.2⟩
  | some ht =>
    obtain ⟨Bv, d, rfl, hrvm, hokm, l1, l2⟩ := hit
    have hST : RowB 5 (w1.alloc (.cells #[.int .i64 ht.after, .bool ht.fails, .slice Bv ht.mask.length d] 36)) L.kb (spl c.bytes at_ (upto old mix 0) ++ L.tb) := by
      rw [upto_zero, ← HM.out.1, spl_self (by rw [hlen]; exact H.out.2.2.1)]
      exact hrow1.alloc _
    have HST := Lib.hid hST
    have hbg := (Below.refl w1.heap.size w1).alloc (Nat.le_refl _) (.cells #[.int .i64 ht.after, .bool ht.fails, .slice Bv ht.mask.length d] 36)
    have hrc2 := hrc.below hbg
    have hG := Blk.new w1 36 #[.int .i64 ht.after, .bool ht.fails, .slice Bv ht.mask.length d]
    have hkb1 : L.kb < w1.heap.size := hrc.lt _ hrc.i1.2.1
    have hrk : r ≠ L.kb := hrc.f1.1
    have hg2 : w.grownBy (w1.alloc (.cells #[.int .i64 ht.after, .bool ht.fails, .slice Bv ht.mask.length d] 36)) (some r) := grown_alloc hg _
    have hrvm2 := hrvm.below hbg
    have HC4 := Lib.hid (show ∀ wx, (w1.alloc (.cells #[.int .i64 ht.after, .bool ht.fails, .slice Bv ht.mask.length d] 36)).grownBy wx (some L.kb) → wx.cell? ⟨r, 4, none⟩ = some (.slice (some ⟨L.kb, 0, none⟩) (c.B * c.N) (c.B * c.N + L.tb.length)) from fun wx hgx => by
      have h4 := (hrc2.blk.grown hgx (fun e => hrk (by injection e))).cell 4
      simpa [refCells, Chp.N, hss.1, hss.2.1, hss.2.2.1] using h4)
    have HYA := Lib.hid (show ∀ j y, ws[j]? = some y → ∃ ad, A = some ad ∧ ∀ wx, (w1.alloc (.cells #[.int .i64 ht.after, .bool ht.fails, .slice Bv ht.mask.length d] 36)).grownBy wx (some L.kb) → wx.cell? (ad.add j) = some (.int .u8 (y.toNat : Int)) from fun j y hy => by
      have hj := (List.getElem?_eq_some_iff.1 hy).1
      obtain ⟨ad, hA, hc⟩ := H.out.2.2.2.2.1 (by rw [bv_length]; omega)
      have hnF := H.out.2.2.2.2.2 ad hA (by have := H.out.2.2.2.1; omega)
      have hlt := H.out.2.2.2.2.1.lt hA (by rw [bv_length]; omega)
      have e1 := hg2.block ad.block hlt (fun e => hnF (by injection e with e; rw [e]; exact H.out.1.i1.1))
      refine ⟨ad, hA, fun wx hgx => ?_⟩
      have e2 := hgx.block ad.block (Nat.lt_of_lt_of_le hlt hg2.size) (fun e => hnF (by injection e with e; rw [e]; exact H.out.1.i1.2.1))
      exact (World.cell?_of_block (by rw [block_add]; exact e2.trans e1)).trans (hc j _ (by rw [bv_get, hy]; rfl)))
    have HMK := Lib.hid (show ∀ wx, (w1.alloc (.cells #[.int .i64 ht.after, .bool ht.fails, .slice Bv ht.mask.length d] 36)).grownBy wx (some L.kb) → wx.cell? ⟨w1.heap.size, 2, none⟩ = some (.slice Bv ht.mask.length d) ∧ wx.cell? ⟨w1.heap.size, 1, none⟩ = some (.bool ht.fails) ∧ RV wx Bv (bv ht.mask) from fun wx hgx => by
      have hgk := hG.grown hgx (fun e => by injection e with e; omega)
      exact ⟨hgk.cell 2, hgk.cell 1, hrvm2.grown hgx (fun bd hB hn e => by injection e with e; exact (hokm bd hB (by rwa [bv_length] at hn)).2.2.1 e)⟩)
    have HML := Lib.hid (hmk ht (by
      unfold strikeS at hhs
      split at hhs
      · cases hhs
      · rename_i h1 h2 h3
        rw [h3]
        split at hhs
        · cases hhs
        · injection hhs with hhs
          rw [hhs]
          exact List.mem_cons_self))
    have H2 := Lib.hid (And.intro hrc2 (And.intro hg2 (And.intro hss hhs)))
    clear hST hrow1 hrc hg hss hhs hrvm hokm hbg hrc2 hG hkb1 hrk hg2 hrvm2
    obtain ⟨w2, hw2⟩ : ∃ w2, w2 = w1.alloc (.cells #[.int .i64 ht.after, .bool ht.fails, .slice Bv ht.mask.length d] 36) := ⟨_, rfl⟩
    rw [← hw2] at HST HC4 HYA HMK H2
    go_wp2_with fail
    rw [← hw2]
    go_wp2_with fail
    go_loopg [11] n (fun q i wr => ∃ j : Nat, j + q = n ∧ i = .int .i64 j ∧ RowB 5 wr L.kb (spl c.bytes at_ (upto old mix j) ++ L.tb) ∧ w2.grownBy wr (some L.kb))
    case atStart => exact ⟨0, by omega, rfl, HST.out, World.grownBy.refl _ _⟩
    case round =>
      obtain ⟨j, hj, rfl, hrow, hgr⟩ := hrel
      have HX := Lib.hid (And.intro hj (And.intro hrow hgr))
      clear hj hrow hgr
      by_cases hlt : j < n
      · have hjI : (j : Int) < (n : Int) := by omega
        obtain ⟨o, y, hyj, ho1, ho2, hda⟩ := HAT.out j hlt
        have HO := Lib.hid (And.intro ho1 ho2)
        have HDA := Lib.hid hda
        clear ho1 ho2 hda
        go_wp2_with fail
        go_loopg [12] 8 (fun q i wx => ∃ k x, k + q = 8 ∧ i = .int .i64 (k : Nat) ∧ Part k (maskAt (some ht) j) o y x ∧ RowB 5 wx L.kb (spl c.bytes at_ ((upto old mix j).set j x) ++ L.tb) ∧ w2.grownBy wx (some L.kb))
        case atStart => exact ⟨0, o, rfl, rfl, Part.zero _ _ _, by rw [HO.out.1]; exact HX.out.2.1, HX.out.2.2⟩
        case round =>
          obtain ⟨k, x, hk, rfl, hpart, hrow, hgr⟩ := hrel
          have HI := Lib.hid (And.intro hk (And.intro hpart (And.intro hrow hgr)))
          obtain ⟨m2, m1, mrv⟩ := HMK.out wr hgr
          by_cases hk8 : k < 8
          · have hk8I : (k : Int) < 8 := by omega
            have w8 : IntKind.i64.wrap (8 * (j : Int)) = 8 * (j : Int) := IntWalk.i64_in _ (by omega)
            have w9 : IntKind.i64.wrap (8 * (j : Int) + (k : Int)) = 8 * (j : Int) + (k : Int) := IntWalk.i64_in _ (by omega)
            have hjw : IntKind.i64.wrap ((k : Int) + 1) = (k : Int) + 1 := IntWalk.i64_in _ (by omega)
            have hbt := bit_any wr Bv ht.mask.length d ht rfl mrv (HML.out) j k hk8 (by omega)
            rw [show ((8 * j + k : Nat) : Int) = 8 * (j : Int) + (k : Int) by omega, bitS_bt] at hbt
            have HBT := Lib.hid hbt
            clear hk hpart hrow hgr m1 mrv hbt
            go_wp2_with fail
            refine HBT.out.mono ?_
            rintro e w5 ⟨rfl, hw5⟩
            obtain rfl := hw5.symm
            clear hw5
            cases hbit : bt (maskAt (some ht) j) k with
            | false =>
              go_wp2_with fail
              go_roundg (8 - (k + 1))
              case measure => have := HI.out.1; omega
              case rel => exact ⟨k + 1, x, by have := HI.out.1; omega, by go_num, Part.skip HI.out.2.1 hbit, HI.out.2.2.1, HI.out.2.2.2⟩
            | true =>
              have HSTP := Lib.hid (show Part (k + 1) (maskAt (some ht) j) o y (mixB (oneB k) x y) ∧ RowB 5 (wr.drew.setCell ⟨L.kb, at_ + j, none⟩ (.int .u8 ((mixB (oneB k) x y).toNat : Int))) L.kb (spl c.bytes at_ ((upto old mix j).set j (mixB (oneB k) x y)) ++ L.tb) ∧ w2.grownBy (wr.drew.setCell ⟨L.kb, at_ + j, none⟩ (.int .u8 ((mixB (oneB k) x y).toNat : Int))) (some L.kb) from by
                refine ⟨Part.step hk8 HI.out.2.1 hbit, ?_, ?_⟩
                · have h1 : RowB 5 wr.drew L.kb (spl c.bytes at_ ((upto old mix j).set j x) ++ L.tb) := HI.out.2.2.1
                  have h2 := h1.set (at_ + j) (mixB (oneB k) x y)
                  rwa [(HDA.out x).2] at h2
                · exact grown_trans (grown_trans HI.out.2.2.2 (grown_drew wr _)) (grown_setCell _ _ _ _))
              have hbits := mixB_bits (oneB k) x y
              have hone := oneB_lt k hk8
              have hcell : wr.cell? ⟨L.kb, at_ + j, none⟩ = some (.int .u8 (x.toNat : Int)) := HI.out.2.2.1.cell (HDA.out x).1
              have hfz := HI.out.2.2.1.frozen (at_ + j)
              have c4 : wr.cell? ⟨r, 4, none⟩ = some (.slice (some ⟨L.kb, 0, none⟩) (c.B * c.N) (c.B * c.N + L.tb.length)) := HC4.out wr HI.out.2.2.2
              obtain ⟨ad, rfl, hya⟩ := HYA.out j y hyj
              have hcy : wr.cell? (ad.add j) = some (.int .u8 (y.toNat : Int)) := hya wr HI.out.2.2.2
              clear hya
              obtain ⟨q, hq⟩ : ∃ q, at_ + j = q := ⟨_, rfl⟩
              have hqM : q < c.B * c.N := by have := H.out.2.2.1; omega
              have hqI : (q : Int) < ((c.B * c.N : Nat) : Int) := by omega
              have hq0 : (0 : Int) ≤ (q : Int) := by omega
              have wq : IntKind.i64.wrap ((at_ : Int) + (j : Int)) = (q : Int) := by rw [show (at_ : Int) + (j : Int) = (q : Int) by omega]; exact IntWalk.i64_in _ (by omega)
              rw [hq] at hcell hfz HSTP
              have hone2 : (2 : Int) ^ k % 256 = ((oneB k).toNat : Int) := by
                rw [← hone]
                have := (oneB k).toNat_lt
                omega
              have HONE := Lib.hid hone2
              clear hq hone hone2
              generalize mixB (oneB k) x y = nx at *
              generalize oneB k = one at *
              generalize c.B * c.N = M at *
              generalize L.kb = kb at *
              generalize M + L.tb.length = cp at *
              go_wp2_with fail
              rw [HONE.out]
              refine wp_region_G (fun w' : World => w'.cell? ⟨r, 4, none⟩ = some (.slice (some ⟨kb, 0, none⟩) M cp) ∧ w'.cell? ⟨kb, q, none⟩ = some (.int .u8 (x.toNat : Int)) ∧ w'.cell? (ad.add j) = some (.int .u8 (y.toNat : Int)) ∧ w'.frozen? ⟨kb, q, none⟩ = false) 26 27 #[false, false, false, false, false, false, false, false, false, false, false, false, false, false, false, false, false, false, false, false, false, false, false, false, false, false, false] (by kernel_rfl) rfl (by kernel_rfl) ?_
              have hS0 : (fun w' : World => w'.cell? ⟨r, 4, none⟩ = some (.slice (some ⟨kb, 0, none⟩) M cp) ∧ w'.cell? ⟨kb, q, none⟩ = some (.int .u8 (x.toNat : Int)) ∧ w'.cell? (ad.add j) = some (.int .u8 (y.toNat : Int)) ∧ w'.frozen? ⟨kb, q, none⟩ = false) wr.drew := ⟨c4, hcell, hcy, hfz⟩
              dsimp only at hS0
              refine wpAnyG_takeL (i := 0) (v := ?v1) (fuel := 26) (listed' := #[true, false, false, false, false, false, false, false, false, false, false, false, false, false, false, false, false, false, false, false, false, false, false, false, false, false, false]) rfl (by kernel_rfl) (fun _ _ _ h => h) (.inl ⟨by rfl, ?hy1⟩) (by assumption) (by kernel_rfl) ?rest1
              case hy1 => (intro w' hSw; (try dsimp only at hSw); go_simp; try with_reducible rfl)
              try simp only [Act.put, List.setIfInBounds_toArray, List.set_cons_zero, List.set_cons_succ]
              refine wpAnyG_takeL (i := 1) (v := ?v2) (fuel := 25) (listed' := #[true, true, false, false, false, false, false, false, false, false, false, false, false, false, false, false, false, false, false, false, false, false, false, false, false, false, false]) rfl (by kernel_rfl) (fun _ _ _ h => h) (.inl ⟨by rfl, ?hy2⟩) (by assumption) (by kernel_rfl) ?rest2
              case hy2 => (intro w' hSw; (try dsimp only at hSw); go_simp; try with_reducible rfl)
              try simp only [Act.put, List.setIfInBounds_toArray, List.set_cons_zero, List.set_cons_succ]
              refine wpAnyG_takeL (i := 2) (v := ?v3) (fuel := 24) (listed' := #[true, true, true, false, false, false, false, false, false, false, false, false, false, false, false, false, false, false, false, false, false, false, false, false, false, false, false]) rfl (by kernel_rfl) (fun _ _ _ h => h) (.inl ⟨by rfl, ?hy3⟩) (by assumption) (by kernel_rfl) ?rest3
              case hy3 => (intro w' hSw; (try dsimp only at hSw); go_simp; try with_reducible rfl)
              try simp only [Act.put, List.setIfInBounds_toArray, List.set_cons_zero, List.set_cons_succ]
              refine wpAnyG_takeL (i := 3) (v := ?v4) (fuel := 23) (listed' := #[true, true, true, true, false, false, false, false, false, false, false, false, false, false, false, false, false, false, false, false, false, false, false, false, false, false, false]) rfl (by kernel_rfl) (fun _ _ _ h => h) (.inl ⟨by rfl, ?hy4⟩) (by assumption) (by kernel_rfl) ?rest4
              case hy4 => (intro w' hSw; (try dsimp only at hSw); go_simp; try with_reducible rfl)
              try simp only [Act.put, List.setIfInBounds_toArray, List.set_cons_zero, List.set_cons_succ]
              refine wpAnyG_takeL (i := 4) (v := ?v5) (fuel := 22) (listed' := #[true, true, true, true, true, false, false, false, false, false, false, false, false, false, false, false, false, false, false, false, false, false, false, false, false, false, false]) rfl (by kernel_rfl) (fun _ _ _ h => h) (.inl ⟨by rfl, ?hy5⟩) (by assumption) (by kernel_rfl) ?rest5
              case hy5 => (intro w' hSw; (try dsimp only at hSw); go_simp; try with_reducible rfl)
              try simp only [Act.put, List.setIfInBounds_toArray, List.set_cons_zero, List.set_cons_succ]
              refine wpAnyG_takeL (i := 5) (v := ?v6) (fuel := 21) (listed' := #[true, true, true, true, true, true, false, false, false, false, false, false, false, false, false, false, false, false, false, false, false, false, false, false, false, false, false]) rfl (by kernel_rfl) (fun _ _ _ h => h) (.inl ⟨by rfl, ?hy6⟩) (by assumption) (by kernel_rfl) ?rest6
              case hy6 => (intro w' hSw; (try dsimp only at hSw); go_simp; try with_reducible rfl)
              try simp only [Act.put, List.setIfInBounds_toArray, List.set_cons_zero, List.set_cons_succ]
              refine wpAnyG_takeL (i := 6) (v := ?v7) (fuel := 20) (listed' := #[true, true, true, true, true, true, true, false, false, false, false, false, false, false, false, false, false, false, false, false, false, false, false, false, false, false, false]) rfl (by kernel_rfl) (fun _ _ _ h => h) (.inl ⟨by rfl, ?hy7⟩) (by assumption) (by kernel_rfl) ?rest7
              case hy7 => (intro w' hSw; (try dsimp only at hSw); go_simp; try with_reducible rfl)
              try simp only [Act.put, List.setIfInBounds_toArray, List.set_cons_zero, List.set_cons_succ]
              refine wpAnyG_takeL (i := 7) (v := ?v8) (fuel := 19) (listed' := #[true, true, true, true, true, true, true, true, false, false, false, false, false, false, false, false, false, false, false, false, false, false, false, false, false, false, false]) rfl (by kernel_rfl) (fun _ _ _ h => h) (.inl ⟨by rfl, ?hy8⟩) (by assumption) (by kernel_rfl) ?rest8
              case hy8 => (intro w' hSw; (try dsimp only at hSw); go_simp; try with_reducible rfl)
              try simp only [Act.put, List.setIfInBounds_toArray, List.set_cons_zero, List.set_cons_succ]
              refine wpAnyG_takeL (i := 8) (v := ?v9) (fuel := 18) (listed' := #[true, true, true, true, true, true, true, true, true, false, false, false, false, false, false, false, false, false, false, false, false, false, false, false, false, false, false]) rfl (by kernel_rfl) (fun _ _ _ h => h) (.inl ⟨by rfl, ?hy9⟩) (by assumption) (by kernel_rfl) ?rest9
              case hy9 => (intro w' hSw; (try dsimp only at hSw); go_simp; try with_reducible rfl)
              try simp only [Act.put, List.setIfInBounds_toArray, List.set_cons_zero, List.set_cons_succ]
              refine wpAnyG_takeL (i := 9) (v := ?v10) (fuel := 17) (listed' := #[true, true, true, true, true, true, true, true, true, true, false, false, false, false, false, false, false, false, false, false, false, false, false, false, false, false, false]) rfl (by kernel_rfl) (fun _ _ _ h => h) (.inl ⟨by rfl, ?hy10⟩) (by assumption) (by kernel_rfl) ?rest10
              case hy10 => (intro w' hSw; (try dsimp only at hSw); go_simp; try with_reducible rfl)
              try simp only [Act.put, List.setIfInBounds_toArray, List.set_cons_zero, List.set_cons_succ]
              refine wpAnyG_takeL (i := 10) (v := ?v11) (fuel := 16) (listed' := #[true, true, true, true, true, true, true, true, true, true, true, false, false, false, false, false, false, false, false, false, false, false, false, false, false, false, false]) rfl (by kernel_rfl) (fun _ _ _ h => h) (.inl ⟨by rfl, ?hy11⟩) (by assumption) (by kernel_rfl) ?rest11
              case hy11 => (intro w' hSw; (try dsimp only at hSw); go_simp; try with_reducible rfl)
              try simp only [Act.put, List.setIfInBounds_toArray, List.set_cons_zero, List.set_cons_succ]
              refine wpAnyG_takeL (i := 11) (v := ?v12) (fuel := 15) (listed' := #[true, true, true, true, true, true, true, true, true, true, true, true, false, false, false, false, false, false, false, false, false, false, false, false, false, false, false]) rfl (by kernel_rfl) (fun _ _ _ h => h) (.inl ⟨by rfl, ?hy12⟩) (by assumption) (by kernel_rfl) ?rest12
              case hy12 => (intro w' hSw; (try dsimp only at hSw); go_simp; try with_reducible rfl)
              try simp only [Act.put, List.setIfInBounds_toArray, List.set_cons_zero, List.set_cons_succ]
              refine wpAnyG_takeL (i := 12) (v := ?v13) (fuel := 14) (listed' := #[true, true, true, true, true, true, true, true, true, true, true, true, true, false, false, false, false, false, false, false, false, false, false, false, false, false, false]) rfl (by kernel_rfl) (fun _ _ _ h => h) (.inl ⟨by rfl, ?hy13⟩) (by assumption) (by kernel_rfl) ?rest13
              case hy13 => (intro w' hSw; (try dsimp only at hSw); go_simp; try with_reducible rfl)
              try simp only [Act.put, List.setIfInBounds_toArray, List.set_cons_zero, List.set_cons_succ]
              refine wpAnyG_takeL (i := 13) (v := ?v14) (fuel := 13) (listed' := #[true, true, true, true, true, true, true, true, true, true, true, true, true, true, false, false, false, false, false, false, false, false, false, false, false, false, false]) rfl (by kernel_rfl) (fun _ _ _ h => h) (.inl ⟨by rfl, ?hy14⟩) (by assumption) (by kernel_rfl) ?rest14
              case hy14 => (intro w' hSw; (try dsimp only at hSw); go_simp; try with_reducible rfl)
              try simp only [Act.put, List.setIfInBounds_toArray, List.set_cons_zero, List.set_cons_succ]
              refine wpAnyG_takeL (i := 14) (v := ?v15) (fuel := 12) (listed' := #[true, true, true, true, true, true, true, true, true, true, true, true, true, true, true, false, false, false, false, false, false, false, false, false, false, false, false]) rfl (by kernel_rfl) (fun _ _ _ h => h) (.inl ⟨by rfl, ?hy15⟩) (by assumption) (by kernel_rfl) ?rest15
              case hy15 => (intro w' hSw; (try dsimp only at hSw); go_simp; try with_reducible rfl)
              try simp only [Act.put, List.setIfInBounds_toArray, List.set_cons_zero, List.set_cons_succ]
              refine wpAnyG_takeL (i := 15) (v := ?v16) (fuel := 11) (listed' := #[true, true, true, true, true, true, true, true, true, true, true, true, true, true, true, true, false, false, false, false, false, false, false, false, false, false, false]) rfl (by kernel_rfl) (fun _ _ _ h => h) (.inl ⟨by rfl, ?hy16⟩) (by assumption) (by kernel_rfl) ?rest16
              case hy16 => (intro w' hSw; (try dsimp only at hSw); go_simp; try with_reducible rfl)
              try simp only [Act.put, List.setIfInBounds_toArray, List.set_cons_zero, List.set_cons_succ]
              refine wpAnyG_takeL (i := 16) (v := ?v17) (fuel := 10) (listed' := #[true, true, true, true, true, true, true, true, true, true, true, true, true, true, true, true, true, false, false, false, false, false, false, false, false, false, false]) rfl (by kernel_rfl) (fun _ _ _ h => h) (.inl ⟨by rfl, ?hy17⟩) (by assumption) (by kernel_rfl) ?rest17
              case hy17 => (intro w' hSw; (try dsimp only at hSw); go_simp; try with_reducible rfl)
              try simp only [Act.put, List.setIfInBounds_toArray, List.set_cons_zero, List.set_cons_succ]
              refine wpAnyG_takeL (i := 17) (v := ?v18) (fuel := 9) (listed' := #[true, true, true, true, true, true, true, true, true, true, true, true, true, true, true, true, true, true, false, false, false, false, false, false, false, false, false]) rfl (by kernel_rfl) (fun _ _ _ h => h) (.inl ⟨by rfl, ?hy18⟩) (by assumption) (by kernel_rfl) ?rest18
              case hy18 => (intro w' hSw; (try dsimp only at hSw); go_simp; try with_reducible rfl)
              try simp only [Act.put, List.setIfInBounds_toArray, List.set_cons_zero, List.set_cons_succ]
              refine wpAnyG_takeL (i := 18) (v := ?v19) (fuel := 8) (listed' := #[true, true, true, true, true, true, true, true, true, true, true, true, true, true, true, true, true, true, true, false, false, false, false, false, false, false, false]) rfl (by kernel_rfl) (fun _ _ _ h => h) (.inl ⟨by rfl, ?hy19⟩) (by assumption) (by kernel_rfl) ?rest19
              case hy19 => (intro w' hSw; (try dsimp only at hSw); go_simp; try with_reducible rfl)
              try simp only [Act.put, List.setIfInBounds_toArray, List.set_cons_zero, List.set_cons_succ]
              refine wpAnyG_takeL (i := 19) (v := ?v20) (fuel := 7) (listed' := #[true, true, true, true, true, true, true, true, true, true, true, true, true, true, true, true, true, true, true, true, false, false, false, false, false, false, false]) rfl (by kernel_rfl) (fun _ _ _ h => h) (.inl ⟨by rfl, ?hy20⟩) (by assumption) (by kernel_rfl) ?rest20
              case hy20 => (intro w' hSw; (try dsimp only at hSw); go_simp; try with_reducible rfl)
              try simp only [Act.put, List.setIfInBounds_toArray, List.set_cons_zero, List.set_cons_succ]
              refine wpAnyG_takeL (i := 20) (v := ?v21) (fuel := 6) (listed' := #[true, true, true, true, true, true, true, true, true, true, true, true, true, true, true, true, true, true, true, true, true, false, false, false, false, false, false]) rfl (by kernel_rfl) (fun _ _ _ h => h) (.inl ⟨by rfl, ?hy21⟩) (by assumption) (by kernel_rfl) ?rest21
              case hy21 => (intro w' hSw; (try dsimp only at hSw); go_simp; try with_reducible rfl)
              try simp only [Act.put, List.setIfInBounds_toArray, List.set_cons_zero, List.set_cons_succ]
              refine wpAnyG_takeL (i := 21) (v := ?v22) (fuel := 5) (listed' := #[true, true, true, true, true, true, true, true, true, true, true, true, true, true, true, true, true, true, true, true, true, true, false, false, false, false, false]) rfl (by kernel_rfl) (fun _ _ _ h => h) (.inl ⟨by rfl, ?hy22⟩) (by assumption) (by kernel_rfl) ?rest22
              case hy22 => (intro w' hSw; (try dsimp only at hSw); go_simp; try with_reducible rfl)
              try simp only [Act.put, List.setIfInBounds_toArray, List.set_cons_zero, List.set_cons_succ]
              refine wpAnyG_takeL (i := 22) (v := ?v23) (fuel := 4) (listed' := #[true, true, true, true, true, true, true, true, true, true, true, true, true, true, true, true, true, true, true, true, true, true, true, false, false, false, false]) rfl (by kernel_rfl) (fun _ _ _ h => h) (.inl ⟨by rfl, ?hy23⟩) (by assumption) (by kernel_rfl) ?rest23
              case hy23 => (intro w' hSw; (try dsimp only at hSw); go_simp; try with_reducible rfl)
              try simp only [Act.put, List.setIfInBounds_toArray, List.set_cons_zero, List.set_cons_succ]
              refine wpAnyG_takeL (i := 23) (v := ?v24) (fuel := 3) (listed' := #[true, true, true, true, true, true, true, true, true, true, true, true, true, true, true, true, true, true, true, true, true, true, true, true, false, false, false]) rfl (by kernel_rfl) (fun _ _ _ h => h) (.inl ⟨by rfl, ?hy24⟩) (by assumption) (by kernel_rfl) ?rest24
              case hy24 => (intro w' hSw; (try dsimp only at hSw); go_simp; try with_reducible rfl)
              try simp only [Act.put, List.setIfInBounds_toArray, List.set_cons_zero, List.set_cons_succ]
              refine wpAnyG_takeL (i := 24) (v := ?v25) (fuel := 2) (listed' := #[true, true, true, true, true, true, true, true, true, true, true, true, true, true, true, true, true, true, true, true, true, true, true, true, true, false, false]) rfl (by kernel_rfl) (fun _ _ _ h => h) (.inl ⟨by rfl, ?hy25⟩) (by assumption) (by kernel_rfl) ?rest25
              case hy25 => (intro w' hSw; (try dsimp only at hSw); go_simp; try with_reducible rfl)
              try simp only [Act.put, List.setIfInBounds_toArray, List.set_cons_zero, List.set_cons_succ]
              refine wpAnyG_takeL (i := 25) (v := ?v26) (fuel := 1) (listed' := #[true, true, true, true, true, true, true, true, true, true, true, true, true, true, true, true, true, true, true, true, true, true, true, true, true, true, false]) rfl (by kernel_rfl) (fun _ _ _ h => h) (.inl ⟨by rfl, ?hy26⟩) (by assumption) (by kernel_rfl) ?rest26
              case hy26 => (intro w' hSw; (try dsimp only at hSw); go_simp; try with_reducible rfl)
              try simp only [Act.put, List.setIfInBounds_toArray, List.set_cons_zero, List.set_cons_succ]
              have hst : wr.drew.cell? ⟨kb, q, none⟩ = some (.int .u8 (x.toNat : Int)) := hcell
              have hfr : wr.drew.frozen? ⟨kb, q, none⟩ = false := hfz
              refine wpAnyG_oneL (i := 26) (fuel := 0) (listed' := #[true, true, true, true, true, true, true, true, true, true, true, true, true, true, true, true, true, true, true, true, true, true, true, true, true, true, true]) rfl (by kernel_rfl) (by kernel_rfl) (by rfl) (fun K hK0 => ?_)
              have hK := Lib.hid hK0
              clear hK0
              go_simp
              refine hK.out _ _ (.inr (by decide)) ?_
              clear hK K hS0
              refine wpAnyG_done (by kernel_rfl) ?_ _
              go_wp2_with fail
              go_roundg (8 - (k + 1))
              case measure => have := HI.out.1; omega
              case rel => exact ⟨k + 1, _, by have := HI.out.1; omega, by go_num, HSTP.out.1, HSTP.out.2.1, HSTP.out.2.2⟩
          · obtain rfl : k = 8 := by omega
            have hx : x = mixB (maskAt (some ht) j) o y := Part.all hpart
            clear hk hpart hrow hgr m1 mrv m2
            have hjw : IntKind.i64.wrap ((j : Int) + 1) = (j : Int) + 1 := IntWalk.i64_in _ (by omega)
            have HE := Lib.hid (show RowB 5 wr L.kb (spl c.bytes at_ (upto old mix (j + 1)) ++ L.tb) from by rw [← HO.out.2, ← hx]; exact HI.out.2.2.1)
            clear hx
            go_wp2_with fail
            go_roundg (n - (j + 1))
            case measure => have := HX.out.1; omega
            case rel => exact ⟨j + 1, by have := HX.out.1; omega, by go_num, HE.out, HI.out.2.2.2⟩
      · obtain rfl : j = n := by have := HX.out.1; omega
        have hol : old.length = j := by rw [← HM.out.1]; exact seg_len (by rw [hlen]; exact H.out.2.2.1)
        have hml : mix.length = old.length := by rw [← HM.out.2, mixL_len (by rw [hol, H.out.2.2.2.1])]
        have hfull := HX.out.2.1
        rw [show upto old mix j = mix by rw [← hol]; exact upto_all hml] at hfull
        have hss := H2.out.2.2.1
        have hrcx := H2.out.1.bytset HX.out.2.2.size (bs := spl c.bytes at_ mix) (by rw [spl_len (by rw [hml, hol, hlen]; exact H.out.2.2.1), hss.2.2.2.2.1]) (grown_ne HX.out.2.2) hfull
        have htch : Tch F w wr := (Tch.of_grown (F := F) H2.out.2.1 (fun k e _ => by injection e with e; rw [← e]; exact H.out.1.i1.1)).then (Tch.of_grown (F := F) HX.out.2.2 (fun k e _ => by injection e with e; rw [← e]; exact H.out.1.i1.2.1)) (fun _ _ h => h)
        have hge : ¬ (j : Int) < (j : Int) := by omega
        obtain ⟨m2, m1, mrv⟩ := HMK.out wr HX.out.2.2
        have HEND := Lib.hid (And.intro hrcx htch)
        have c5 := hrcx.cells.2.2.2.2.2.1
        have c8f := hrcx.blk.frozen 8
        have c8 := hrcx.cells.2.2.2.2.2.2.2.2.1
        have hmx : mixL (some ht) (seg c.bytes at_ ws.length) ws = mix := by rw [H.out.2.2.2.1, HM.out.1, HM.out.2]
        have hst1 := H2.out.2.2.2
        have c5' : wr.cell? ⟨r, 5, none⟩ = some (.slice (some ⟨L.kd, 0, none⟩) c.B L.cd) := by simpa [hss.1] using c5
        have hcd := hrcx.cd.1
        obtain ⟨x0, hx0, y0⟩ := hrcx.badAt (b := b) (by show b < (strikeS c).2.B; rw [hss.1]; exact H.out.2.1)
        have y0' : wr.cell? ⟨L.kd, b, none⟩ = some (.bool x0) := y0
        have hkf : wr.frozen? ⟨L.kd, b, none⟩ = false := hrcx.kd.frozen b
        have hbI : (b : Int) < (c.B : Int) := by have := H.out.2.1; omega
        have HMX := Lib.hid (And.intro hmx hst1)
        clear hol hml hfull hrcx htch m2 mrv c5 y0 hx0 hmx hst1
        obtain ⟨bb, hbb⟩ : ∃ bb, ht.fails = bb := ⟨_, rfl⟩
        rw [hbb] at m1
        cases bb with
        | true =>
          go_wp2_with fail
          go_ret
          have hrr : R = ({(strikeS c).2 with bytes := spl c.bytes at_ mix, bad := (strikeS c).2.bad.set b true}, 9) := by
            rw [← HR.out]
            unfold doneS
            simp only [HMX.out.2, hbb]
            rw [HMX.out.1]
            rfl
          rw [hrr]
          have hg := grown_setCell wr L.kd b (.bool true)
          refine ⟨rfl, ⟨_, HEND.out.1.badset hg.size (by show b < (strikeS c).2.B; rw [H2.out.2.2.1.1]; exact H.out.2.1) (grown_ne hg) ?_⟩, HEND.out.2.then (Tch.of_grown (F := F) hg (fun k e _ => by injection e with e; rw [← e]; exact H.out.1.i1.2.2)) (fun _ _ h => h)⟩
          have hb := HEND.out.1.kd.set_ b (.bool true)
          have hl : b < ((strikeS c).2.bad.map Value.bool).length := by rw [List.length_map]; have := HEND.out.1.ok.bads; have h2 := H.out.2.1; have h3 := H2.out.2.2.1.1; dsimp only at this; omega
          have e : ((strikeS c).2.bad.map Value.bool ++ L.td).toArray.setIfInBounds b (.bool true) = (((strikeS c).2.bad.set b true).map Value.bool ++ L.td).toArray := by
            rw [List.map_set, ← List.set_append_left _ _ hl]
            simp
          rwa [e] at hb
        | false =>
          go_wp2_with fail
          go_ret
          have hrr : R = ({(strikeS c).2 with bytes := spl c.bytes at_ mix, dead := true}, 10) := by
            rw [← HR.out]
            unfold doneS
            simp only [HMX.out.2, hbb]
            rw [HMX.out.1]
            rfl
          rw [hrr]
          have hg := grown_setCell wr r 8 (.bool true)
          refine ⟨rfl, ⟨_, HEND.out.1.strct hg.size (grown_ne hg) _ _ _ true _ _ ?_ (HEND.out.1.hits.rgrown hg) HEND.out.1.ch⟩, HEND.out.2.then (Tch.of_grown (F := F) hg (fun k e _ => by injection e with e; rw [← e]; exact H.out.1.i1.1)) (fun _ _ h => h)⟩
          have hb := HEND.out.1.blk.set_ 8 (.bool true)
          simpa [refCells, Chp.N] using hb
end Go.Proofs.Ytlcdabmclcfagaa
