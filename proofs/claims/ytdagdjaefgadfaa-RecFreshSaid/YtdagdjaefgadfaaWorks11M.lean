import Derived.Test.YtdagdjaefgadfaaRecDM
import Derived.Test.YtdagdjaefgadfaaAtGM
import Derived.Test.YtdagdjaefgadfaaMSame
set_option linter.unusedVariables false
set_option linter.unusedSimpArgs false
/- Layer 11: works. -/
namespace Go.Proofs.Ytdagdjaefgadfaa
open Go.RowKit

def cX : Chg := ⟨⟨5, 1, .empty, 0⟩, [], true⟩
theorem chgs_lit {w : World} {g : Nat} {t : TypeId} (hb : Blk w g t #[.int .i64 5, .int .u8 1, .string .empty, .int .i64 0, .slice none 0 0, .bool true]) : ChgsIn w (some ⟨g, 0, none⟩) 1 [cX] := by
  refine ⟨rfl, fun i a ha => ?_⟩
  cases i with
  | succ i => simp at ha
  | zero =>
    cases ha
    refine ⟨(by decide : cX.key.name.size ≤ maxLen), _, .slice none 0 0, rfl, ⟨none, 0, rfl, RV.nil _ _, Nat.le_refl _, by decide, fun _ h => by cases h⟩, fun k u hu => ?_⟩
    rw [Nat.zero_mul, add_zero, add_lit0, hb.cell]
    simpa [chgCells, cX] using hu

set_option maxRecDepth 100000 in
set_option maxHeartbeats 2000000 in
theorem works11_any (w : World) : Calls Try.prog 12 #[] w fun e w' => e = .returned (.bool true) ∧ Below w.heap.size w w' := by
  have p0 : recPutS 128 [cX] = (pageS 128 2 [1, 0, 5, 0, 1], 0) := by decide +kernel
  have p1 : getS (pageS 128 2 [1, 0, 5, 0, 1]) = (2, [1, 0, 5, 0, 1], 0) := by decide +kernel
  have p2 : getRecS [0] = ([], 5) := by kernel_rfl
  have p3 : putDropS 128 0 = ([], 2) := rfl
  have p4 : (pageS 128 2 [1, 0, 5, 0, 1]).length = 128 := by decide +kernel
  have HP := Lib.hid (And.intro p0 (And.intro p1 (And.intro p2 (And.intro p3 p4))))
  clear p0 p1 p2 p3 p4
  generalize pageS 128 2 [1, 0, 5, 0, 1] = pg at *
  have hw0 : Below w.heap.size w (w.alloc (.cells #[.int .i64 5, .int .u8 1, .string .empty, .int .i64 0, .slice none 0 0, .bool true] 41)) := (Below.refl _ _).alloc (Nat.le_refl _) _
  have HW := Lib.hid (And.intro (chgs_lit (Blk.new w 41 _)) hw0)
  clear hw0
  go_enter Try.func12, Try.ntmps12
  go_wp2_with fail
  refine (recPut_any _ 128 _ 1 1 [cX] HW.out.1 (by decide)).mono ?_
  rw [HP.out.1]
  rintro e w1 ⟨v1, rfl, ho1, hb1⟩
  obtain ⟨A1, d1, rfl, hrv1, hl1, hm1, _⟩ := ho1.slice
  dsimp only at hrv1 hl1 ⊢
  rw [HP.out.2.2.2.2] at hl1 ⊢
  have H1 := Lib.hid (And.intro hrv1 (below_then HW.out.2 HW.out.2.size hb1))
  clear ho1 hrv1 hb1
  go_wp2_with fail
  refine (getPage_n w1 A1 128 d1 pg HP.out.2.2.2.2 H1.out.1 hl1 hm1).mono ?_
  rw [HP.out.2.1]
  rintro e w2 ⟨v2, rfl, ho2, hb2⟩
  obtain ⟨A2, d2, rfl, hrv2, hl2, hm2, _⟩ := ho2.slice
  dsimp only [List.length_cons, List.length_nil] at hrv2 hl2 ⊢
  have hb2' := below_then H1.out.2 H1.out.2.size hb2
  have hr0 : RV (w2.alloc (.cells #[.int .u8 0] 5)) (some ⟨w2.heap.size, 0, none⟩) (bv [0]) := (RowB.new w2 5 [0]).rv
  have H2 := Lib.hid (And.intro (hrv2.alloc (.cells #[.int .u8 0] 5)) (And.intro (hb2'.alloc hb2'.size (.cells #[.int .u8 0] 5)) hr0))
  clear ho2 hrv2 hb2 hb2' hr0
  go_wp2_with fail
  refine (recGet_n _ _ 1 1 [0] rfl H2.out.2.2 (by decide)).mono ?_
  rw [HP.out.2.2.1]
  rintro e w3 ⟨v3, rfl, ho3, hb3⟩
  obtain ⟨A3, d3, rfl, _, _, _, _⟩ := OwnL.listIn chg_len ho3
  dsimp only [List.length_nil]
  have H3 := Lib.hid (And.intro (H2.out.1.below hb3) (below_then H2.out.2.1 H2.out.2.1.size hb3))
  clear ho3 hb3
  go_wp2_with fail
  refine (putDrop_any w3 128 0 (by decide)).mono ?_
  rw [HP.out.2.2.2.1]
  rintro e w4 ⟨v4, rfl, ho4, hb4⟩
  obtain ⟨A4, d4, rfl, _, _, _, _⟩ := ho4.slice
  dsimp only [List.length_nil]
  have hb4' := below_then H3.out.2 H3.out.2.size hb4
  have hr5 : RV (w4.alloc (.cells #[.int .u8 1, .int .u8 0, .int .u8 5, .int .u8 0, .int .u8 1] 5)) (some ⟨w4.heap.size, 0, none⟩) (bv [1, 0, 5, 0, 1]) := (RowB.new w4 5 [1, 0, 5, 0, 1]).rv
  have H4 := Lib.hid (And.intro ((H3.out.1.below hb4).alloc (.cells #[.int .u8 1, .int .u8 0, .int .u8 5, .int .u8 0, .int .u8 1] 5)) (And.intro (hb4'.alloc hb4'.size (.cells #[.int .u8 1, .int .u8 0, .int .u8 5, .int .u8 0, .int .u8 1] 5)) hr5))
  clear ho4 hb4 hb4' hr5
  go_wp2_with fail
  refine (same_any A2 _ d2 5 [1, 0, 5, 0, 1] [1, 0, 5, 0, 1] _ H4.out.1 H4.out.2.2 (by decide) (by decide)).mono ?_
  rintro e w5 ⟨rfl, hd5⟩
  rw [decide_eq_true rfl]
  have H5 := Lib.hid (below_then H4.out.2.1 H4.out.2.1.size (hd5.below _))
  clear hd5
  go_wp2_with fail
  go_ret
  exact ⟨rfl, H5.out⟩
end Go.Proofs.Ytdagdjaefgadfaa
