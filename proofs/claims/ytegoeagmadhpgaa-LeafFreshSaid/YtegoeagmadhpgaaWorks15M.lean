import Derived.Test.YtegoeagmadhpgaaMGet
import Derived.Test.YtegoeagmadhpgaaLeafPM
import Derived.Test.YtegoeagmadhpgaaSealEM
import Derived.Test.YtegoeagmadhpgaaMBase
import Derived.Test.YtegoeagmadhpgaaFactEM
import Derived.Test.YtegoeagmadhpgaaLensM
import Derived.Test.YtegoeagmadhpgaaSameM
set_option linter.unusedVariables false
set_option linter.unusedSimpArgs false
/- Layer 15: lives. -/
namespace Go.Proofs.Ytegoeagmadhpgaa
open Go.RowKit

theorem dGet_n (w : World) (A : Option Addr) (n c : Nat) (xs : List UInt8) (hn : xs.length = n) (hr : RV w A (bv xs)) (hlc : n ≤ c) (hc : c ≤ maxLen) :
    Calls Try.prog 20 #[.slice A n c] w (GetPageEnd w (getS xs)) := by
  subst hn
  exact dGet_any w A c xs hr hlc hc
def fL : Fct := ⟨⟨1, 1, .empty, 0⟩, [5]⟩
theorem fcts_lit {w : World} {g h d : Nat} {t : TypeId} (hb : Blk w g t #[.int .i64 1, .int .u8 1, .string .empty, .int .i64 0, .slice (some ⟨h, 0, none⟩) 1 d]) (hr : RV w (some ⟨h, 0, none⟩) (bv [5])) (h4 : 1 ≤ d) (hd : d ≤ maxLen) : FctsIn w (some ⟨g, 0, none⟩) 1 [fL] := by
  refine ⟨rfl, fun i a ha => ?_⟩
  cases i with
  | succ i => simp at ha
  | zero =>
    cases ha
    refine ⟨(by decide : fL.key.name.size ≤ maxLen), _, .slice (some ⟨h, 0, none⟩) 1 d, rfl, ⟨_, d, rfl, hr, h4, hd, fun _ _ _ e => by cases e⟩, fun k u hu => ?_⟩
    rw [Nat.zero_mul, add_zero, add_lit0, hb.cell]
    simpa [fctCells, fL] using hu
theorem fcts_none (w : World) (A : Option Addr) : FctsIn w A 0 [] := ⟨rfl, fun i a h => by simp at h⟩

set_option maxRecDepth 100000 in
set_option maxHeartbeats 2000000 in
theorem lives15_any (w : World) : Calls Try.prog 14 #[] w fun e w' => e = .returned (.bool true) ∧ Below w.heap.size w w' := by
  have p0 : putLeafS 128 [fL] = (pageS 128 4 [1, 1, 0, 1, 1, 5], 0) := by decide +kernel
  have p1 : getS (pageS 128 4 [1, 1, 0, 1, 1, 5]) = (4, [1, 1, 0, 1, 1, 5], 0) := by decide +kernel
  have p2 : getLeafS [1, 1, 0, 1, 1, 5] = ([fL], 0) := by decide +kernel
  have p3 : putLeafS 128 [] = ([], 2) := by decide +kernel
  have p4 : (pageS 128 4 [1, 1, 0, 1, 1, 5]).length = 128 := by decide +kernel
  have p5 : innS ⟨1, 1, .empty, 0⟩ = 5 := by decide +kernel
  have HP := Lib.hid (And.intro p0 (And.intro p1 (And.intro p2 (And.intro p3 (And.intro p4 p5)))))
  clear p0 p1 p2 p3 p4 p5
  generalize pageS 128 4 [1, 1, 0, 1, 1, 5] = pg at *
  have hw0 : Below w.heap.size w ((w.alloc (.cells #[.int .u8 5] 5)).alloc (.cells #[.int .i64 1, .int .u8 1, .string .empty, .int .i64 0, .slice (some ⟨w.heap.size, 0, none⟩) 1 1] 32)) := ((Below.refl _ _).alloc (Nat.le_refl _) _).alloc (by simp) _
  have hb0 := Blk.new (w.alloc (.cells #[.int .u8 5] 5)) 32 #[.int .i64 1, .int .u8 1, .string .empty, .int .i64 0, .slice (some ⟨w.heap.size, 0, none⟩) 1 1]
  have hr0 : RV (w.alloc (.cells #[.int .u8 5] 5)) (some ⟨w.heap.size, 0, none⟩) (bv [5]) := (RowB.new w 5 [5]).rv
  have hl := fcts_lit hb0 (hr0.alloc _) (Nat.le_refl _) (by decide)
  rw [alloc_sz] at hl
  have HW := Lib.hid (And.intro hl hw0)
  clear hw0 hb0 hr0 hl
  go_enter Try.func14, Try.ntmps14
  go_wp2_with fail
  refine (putLeaf_any _ 128 _ 1 1 [fL] HW.out.1 (by decide) (by decide)).mono ?_
  rw [HP.out.1]
  rintro e w1 ⟨v1, rfl, ho1, hb1⟩
  obtain ⟨A1, d1, rfl, hrv1, hl1, hm1, _⟩ := ho1.slice
  dsimp only at hrv1 hl1 ⊢
  rw [HP.out.2.2.2.2.1] at hl1 ⊢
  have H1 := Lib.hid (And.intro hrv1 (And.intro (ListIn.below fct_len (by decide) HW.out.1 hb1) (below_then HW.out.2 HW.out.2.size hb1)))
  clear ho1 hrv1 hb1
  go_wp2_with fail
  refine (dGet_n w1 A1 128 d1 pg HP.out.2.2.2.2.1 H1.out.1 hl1 hm1).mono ?_
  rw [HP.out.2.1]
  rintro e w2 ⟨v2, rfl, ho2, hb2⟩
  obtain ⟨A2, d2, rfl, hrv2, hl2, hm2, _⟩ := ho2.slice
  dsimp only [List.length_cons, List.length_nil] at hrv2 hl2 ⊢
  have H2 := Lib.hid (And.intro hrv2 (And.intro (ListIn.below fct_len (by decide) H1.out.2.1 hb2) (below_then H1.out.2.2 H1.out.2.2.size hb2)))
  clear ho2 hrv2 hb2
  go_wp2_with fail
  refine (getLeaf_any w2 A2 6 d2 [1, 1, 0, 1, 1, 5] rfl H2.out.1 (by decide)).mono ?_
  rw [HP.out.2.2.1]
  rintro e w3 ⟨v3, rfl, ⟨ps, hps, ho3⟩, hb3⟩
  obtain ⟨A3, d3, rfl, hin3, hl3, hm3⟩ := OwnG.listIn ho3
  rw [hps] at hin3
  dsimp only [List.length_cons, List.length_nil] at hin3 hl3 ⊢
  have H3 := Lib.hid (And.intro (H2.out.1.below hb3) (And.intro (ListIn.below fct_len (by decide) H2.out.2.1 hb3) (And.intro (below_then H2.out.2.2 H2.out.2.2.size hb3) hin3)))
  clear ho3 hb3 hin3 hps
  go_wp2_with fail
  refine (putLeaf_any w3 128 none 0 0 [] (fcts_none _ _) (by decide) (by decide)).mono ?_
  rw [HP.out.2.2.2.1]
  rintro e w4 ⟨v4, rfl, ho4, hb4⟩
  obtain ⟨A4, d4, rfl, _, _, _, _⟩ := ho4.slice
  dsimp only [List.length_nil]
  have hb4' := below_then H3.out.2.2.1 H3.out.2.2.1.size hb4
  have hr5 : RV (w4.alloc (.cells #[.int .u8 1, .int .u8 1, .int .u8 0, .int .u8 1, .int .u8 1, .int .u8 5] 5)) (some ⟨w4.heap.size, 0, none⟩) (bv [1, 1, 0, 1, 1, 5]) := (RowB.new w4 5 [1, 1, 0, 1, 1, 5]).rv
  have hb45 := (Below.refl w4.heap.size w4).alloc (Nat.le_refl _) (.cells #[.int .u8 1, .int .u8 1, .int .u8 0, .int .u8 1, .int .u8 1, .int .u8 5] 5)
  have H4 := Lib.hid (And.intro ((H3.out.1.below hb4).below hb45) (And.intro (ListIn.below fct_len (by decide) (ListIn.below fct_len (by decide) H3.out.2.1 hb4) hb45) (And.intro (below_then hb4' hb4'.size hb45) (And.intro (ListIn.below fct_len (by decide) (ListIn.below fct_len (by decide) H3.out.2.2.2 hb4) hb45) hr5))))
  clear ho4 hb4 hb4' hr5 hb45
  go_wp2_with fail
  refine (same_any A2 _ d2 6 [1, 1, 0, 1, 1, 5] [1, 1, 0, 1, 1, 5] _ H4.out.1 H4.out.2.2.2.2 (by decide) (by decide)).mono ?_
  rintro e w5 ⟨rfl, hd5⟩
  rw [decide_eq_true rfl]
  have hb5 := hd5.below (w4.alloc (.cells #[.int .u8 1, .int .u8 1, .int .u8 0, .int .u8 1, .int .u8 1, .int .u8 5] 5)).heap.size
  have H5 := Lib.hid (And.intro (ListIn.below fct_len (by decide) H4.out.2.1 hb5) (And.intro (below_then H4.out.2.2.1 H4.out.2.2.1.size hb5) (ListIn.below fct_len (by decide) H4.out.2.2.2.1 hb5)))
  clear hd5 hb5
  go_wp2_with fail
  refine (dFacts_any w5 A3 1 d3 [fL] H5.out.2.2 _ 1 1 [fL] H5.out.1 (by decide)).mono ?_
  rintro e w6 ⟨rfl, hd6⟩
  rw [decide_eq_true rfl]
  have hb6 := hd6.below w5.heap.size
  have hin6 : FctsIn w6 (some ⟨w.heap.size + 1, 0, none⟩) 1 [fL] := ListIn.below fct_len (by decide) H5.out.1 hb6
  obtain ⟨_, ad, B, d, hA, _, _, _, _, x0, x1, x2, x3, _⟩ := FctsIn.at_ hin6 (i := 0) rfl
  injection hA with hA
  subst hA
  rw [show ((⟨w.heap.size + 1, 0, none⟩ : Addr).add (0 * 5)) = ⟨w.heap.size + 1, 0, none⟩ from rfl] at x0 x1 x2 x3
  have H6 := Lib.hid (below_then H5.out.2.1 H5.out.2.1.size hb6)
  clear hd6 hb6 hin6
  dsimp only [fL] at x0 x1 x2 x3
  have x1' : w6.cell? ⟨w.heap.size + 1, 1, none⟩ = some (.int .u8 1) := x1
  have HI := Lib.hid (innLen_any w6 ⟨1, 1, .empty, 0⟩ (Nat.zero_le _))
  rw [HP.out.2.2.2.2.2] at HI
  clear x1
  go_wp2_with fail
  refine HI.out.mono ?_
  rintro e w7 ⟨rfl, hb7⟩
  have H7 := Lib.hid (below_then H6.out H6.out.size hb7)
  clear hb7 x0 x1' x2 x3
  go_wp2_with fail
  go_ret
  exact ⟨rfl, H7.out⟩
end Go.Proofs.Ytegoeagmadhpgaa
