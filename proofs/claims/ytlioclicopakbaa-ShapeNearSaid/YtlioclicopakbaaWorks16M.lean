import Derived.Test.YtlioclicopakbaaShLeM
import Derived.Test.YtlioclicopakbaaMInt
import Derived.Test.YtlioclicopakbaaCell2M
set_option linter.unusedVariables false
set_option linter.unusedSimpArgs false
/- Layer 16: lives, keys, sum. -/
namespace Go.Proofs.Ytlioclicopakbaa
open Go.RowKit

def fL : Fct := ⟨⟨1, 1, .empty, 0⟩, [5]⟩
theorem fcts_lit {w : World} {g h d : Nat} {t : TypeId} (hb : Blk w g t #[.int .i64 1, .int .u8 1, .string .empty, .int .i64 0, .slice (some ⟨h, 0, none⟩) 1 d]) (hr : RV w (some ⟨h, 0, none⟩) (bv [5])) (h4 : 1 ≤ d) (hd : d ≤ maxLen) : FctsIn w (some ⟨g, 0, none⟩) 1 [fL] := by
  refine ⟨rfl, fun i a ha => ?_⟩
  cases i with
  | succ i => simp at ha
  | zero =>
    cases ha
    refine ⟨(by decide : fL.key.name.size ≤ maxLen), _, .slice (some ⟨h, 0, none⟩) 1 d, rfl, ⟨_, d, rfl, hr, h4, hd, fun _ _ _ e => by cases e⟩, fun k u hu => ?_⟩
    rw [Nat.zero_mul, add_zero, add_lit0, hb.cell]
    simpa [fctCells, fL] using hu
theorem fcts_none (w : World) (A : Option Addr) : FctsIn w A 0 [] := ⟨rfl, fun i a h => by simp at h⟩

set_option maxRecDepth 100000 in
set_option maxHeartbeats 2000000 in
theorem lives16_any (w : World) : Calls Try.prog 16 #[] w fun e w' => e = .returned (.bool true) ∧ Below w.heap.size w w' := by
  have p0 : leavesS 128 [fL] = ([1], 0) := by decide +kernel
  have p1 : levelsS 128 [fL] = ([1], 0) := by decide +kernel
  have p2 : levelsS 128 [] = ([], 0) := by decide +kernel
  have p3 : endS fL.key = false := by decide +kernel
  have p4 : endS ⟨2, 1, .empty, 0⟩ = true := by decide +kernel
  have HP := Lib.hid (And.intro p0 (And.intro p1 (And.intro p2 (And.intro p3 p4))))
  clear p0 p1 p2 p3 p4
  have hw0 : Below w.heap.size w (w.alloc (.cells #[.int .u8 5] 5)) := (Below.refl _ _).alloc (Nat.le_refl _) _
  have hr0 : RV (w.alloc (.cells #[.int .u8 5] 5)) (some ⟨w.heap.size, 0, none⟩) (bv [5]) := (RowB.new w 5 [5]).rv
  have hk1 := Blk.new (w.alloc (.cells #[.int .u8 5] 5)) 41 #[.int .i64 1, .int .u8 1, .string .empty, .int .i64 0, .slice (some ⟨w.heap.size, 0, none⟩) 1 1]
  rw [alloc_sz] at hk1
  have hw1 : Below w.heap.size w ((w.alloc (.cells #[.int .u8 5] 5)).alloc (.cells #[.int .i64 1, .int .u8 1, .string .empty, .int .i64 0, .slice (some ⟨w.heap.size, 0, none⟩) 1 1] 41)) := hw0.alloc hw0.size _
  have HW := Lib.hid (And.intro (fcts_lit hk1 (hr0.alloc _) (by decide) (by decide)) (And.intro hw1 hk1))
  clear hw0 hr0 hk1 hw1
  go_enter Try.func16, Try.ntmps16
  go_wp2_with fail
  refine (leaves_any _ 128 _ 1 1 [fL] HW.out.1 (by decide) (by decide)).mono ?_
  rw [HP.out.1]
  rintro e w2 ⟨v2, rfl, ho2, hb2⟩
  obtain ⟨A2, c2, rfl, hrv2, _, _⟩ := OwnI.slice ho2
  dsimp only [List.length_cons, List.length_nil] at hrv2 ⊢
  have H2 := Lib.hid (And.intro hrv2 (And.intro (ListIn.below fct_len (by decide) HW.out.1 hb2) (And.intro (below_then HW.out.2.1 HW.out.2.1.size hb2) (HW.out.2.2.below hb2 HW.out.2.2.lt))))
  clear ho2 hrv2 hb2
  go_wp2_with fail
  refine (levels_any _ 128 _ 1 1 [fL] H2.out.2.1 (by decide) (by decide)).mono ?_
  rw [HP.out.2.1]
  rintro e w3 ⟨v3, rfl, ho3, hb3⟩
  obtain ⟨A3, c3, rfl, hrv3, _, _⟩ := OwnI.slice ho3
  dsimp only [List.length_cons, List.length_nil] at hrv3 ⊢
  have H3 := Lib.hid (And.intro (H2.out.1.below hb3) (And.intro hrv3 (And.intro (below_then H2.out.2.2.1 H2.out.2.2.1.size hb3) (H2.out.2.2.2.below hb3 H2.out.2.2.2.lt))))
  clear ho3 hrv3 hb3
  go_wp2_with fail
  refine (levels_any _ 128 none 0 0 [] (fcts_none _ _) (by simp) (by decide)).mono ?_
  rw [HP.out.2.2.1]
  rintro e w4 ⟨v4, rfl, ho4, hb4⟩
  obtain ⟨A4, c4, rfl, _, _, _⟩ := OwnI.slice ho4
  dsimp only [List.length_nil]
  have hb4' := below_then H3.out.2.2.1 H3.out.2.2.1.size hb4
  have hbl : Below w4.heap.size w4 (w4.alloc (.cells #[.int .i64 1] 3)) := (Below.refl _ _).alloc (Nat.le_refl _) _
  have H4 := Lib.hid (show RV (w4.alloc (.cells #[.int .i64 1] 3)) A2 (iv [1]) ∧ RV (w4.alloc (.cells #[.int .i64 1] 3)) A3 (iv [1]) ∧ RV (w4.alloc (.cells #[.int .i64 1] 3)) (some ⟨w4.heap.size, 0, none⟩) (iv [1]) ∧ Below w.heap.size w (w4.alloc (.cells #[.int .i64 1] 3)) ∧ Blk (w4.alloc (.cells #[.int .i64 1] 3)) (w.heap.size + 1) 41 #[.int .i64 1, .int .u8 1, .string .empty, .int .i64 0, .slice (some ⟨w.heap.size, 0, none⟩) 1 1] from
    ⟨(H3.out.1.below hb4).alloc _, (H3.out.2.1.below hb4).alloc _, rvI_lit w4 3 1, hb4'.alloc hb4'.size _, (H3.out.2.2.2.below hb4 H3.out.2.2.2.lt).alloc _⟩)
  clear ho4 hb4 hb4' hbl
  go_wp2_with fail
  refine (ints_eq A2 _ _ _ 1 1 [1] _ H4.out.1 H4.out.2.2.1 rfl rfl (by decide)).mono ?_
  rintro e w5 ⟨rfl, hb5⟩
  have hb5' := below_then H4.out.2.2.2.1 H4.out.2.2.2.1.size hb5
  have H5 := Lib.hid (show RV (w5.alloc (.cells #[.int .i64 1] 3)) A3 (iv [1]) ∧ RV (w5.alloc (.cells #[.int .i64 1] 3)) (some ⟨w5.heap.size, 0, none⟩) (iv [1]) ∧ Below w.heap.size w (w5.alloc (.cells #[.int .i64 1] 3)) ∧ Blk (w5.alloc (.cells #[.int .i64 1] 3)) (w.heap.size + 1) 41 #[.int .i64 1, .int .u8 1, .string .empty, .int .i64 0, .slice (some ⟨w.heap.size, 0, none⟩) 1 1] from
    ⟨(H4.out.2.1.below hb5).alloc _, rvI_lit w5 3 1, hb5'.alloc hb5'.size _, (H4.out.2.2.2.2.below hb5 H4.out.2.2.2.2.lt).alloc _⟩)
  clear hb5 hb5'
  go_wp2_with fail
  refine (ints_eq A3 _ _ _ 1 1 [1] _ H5.out.1 H5.out.2.1 rfl rfl (by decide)).mono ?_
  rintro e w6 ⟨rfl, hb6⟩
  have k6 := H5.out.2.2.2.below hb6 H5.out.2.2.2.lt
  have c0 := k6.cell 0
  have c1 := k6.cell 1
  have c2' := k6.cell 2
  have c3' := k6.cell 3
  simp at c0 c1 c2' c3'
  have H6 := Lib.hid (below_then H5.out.2.2.1 H5.out.2.2.1.size hb6)
  have HE := Lib.hid (And.intro (fun w => endK_any w fL.key (by decide)) (fun w => endK_any w ⟨2, 1, .empty, 0⟩ (by decide)))
  rw [HP.out.2.2.2.1, HP.out.2.2.2.2] at HE
  unfold fL Ky.val at HE
  dsimp only at HE
  clear hb6 k6
  go_wp2_with fail
  refine (HE.out.1 _).mono ?_
  rintro e w7 ⟨rfl, hb7⟩
  have H7 := Lib.hid (below_then H6.out H6.out.size hb7)
  clear hb7 c0 c1 c2' c3'
  go_wp2_with fail
  refine (HE.out.2 _).mono ?_
  rintro e w8 ⟨rfl, hb8⟩
  have H8 := Lib.hid (below_then H7.out H7.out.size hb8)
  clear hb8
  go_wp2_with fail
  go_ret
  exact ⟨rfl, H8.out⟩

set_option maxRecDepth 100000 in
set_option maxHeartbeats 1000000 in
theorem keys16_any (w : World) (A : Option Addr) (n d : Nat) (l : List Fct) (h : FctsIn w A n l) (hn : n * 64 ≤ 140737488351232) :
    Calls Try.prog 11 #[.slice A n d] w fun e w' => ∃ v, e = .returned v ∧ OwnY w' w.heap.size v n (l.map (·.key)) ∧ Below w.heap.size w w' := by
  have H := Lib.hid (And.intro h h.1)
  clear h
  obtain ⟨ii, iz, hii, hiz, hi1, hi2, hi3⟩ := ky_info'
  go_enter Try.func11, Try.ntmps11
  go_wp2_with fail
  go_loopg [3, 4] n (fun k v i wr => ∃ j : Nat, j + k = n ∧ i = .int .i64 j ∧ OwnY wr w.heap.size v j ((l.take j).map (·.key)) ∧ Below w.heap.size w wr)
  case atStart => exact ⟨0, by omega, rfl, OwnL.nil _ _ _, Below.refl _ _⟩
  case round =>
    obtain ⟨j, hj, rfl, ho, hb⟩ := hrel
    have HX := Lib.hid (And.intro hj (And.intro ho hb))
    clear hj ho hb
    by_cases hlt : j < n
    · obtain ⟨f, hf⟩ : ∃ f, l[j]? = some f := ⟨_, List.getElem?_eq_getElem (by have := H.out.2; omega)⟩
      obtain ⟨okf, ad, B1, d1, hA, hr1, l1, l2, hblk, x0, x1, x2, x3, x4⟩ := FctsIn.at_ H.out.1 hf
      subst hA
      have up : ∀ {p : Addr} {u : Value}, w.cell? p = some u → p.block < w.heap.size → wr.cell? p = some u := fun hu hp => (World.cell?_of_block (HX.out.2.2.block _ hp)).trans hu
      have p0 := up x0 hblk
      have p1 := up x1 hblk
      have p2 := up x2 hblk
      have p3 := up x3 hblk
      have hjn : (j : Int) < (n : Int) := by omega
      have htk : (l.take (j + 1)).map (·.key) = (l.take j).map (·.key) ++ [f.key] := by
        rw [List.take_add_one, hf, List.map_append]
        rfl
      have hown := HX.out.2.1
      generalize (l.take j).map (·.key) = G at hown htk
      have HV := Lib.hid (And.intro okf (And.intro htk hown))
      clear x0 x1 x2 x3 x4 up hf okf hr1 htk hown
      obtain ⟨⟨fi, fa, fs, fc⟩, fv⟩ := f
      dsimp only at p0 p1 p2 p3 HV l1
      go_wp2_with (at_builtin; refine wpList_appL1 (cell := kyCells) (val := kyVal) (ok := okKy) (sz := 4) wr rfl _ _ 28 rfl w.heap.size 33 ii iz 40 Try.underlying28 hii hiz hi1 hi2 hi3 (by decide) ky_len ky_one u3 j G rfl HV.out.2.2 (⟨fi, fa, fs, fc⟩ : Ky) (.slice none 0 0) rfl HV.out.1 (noVal _ _) _ rfl ?_ ?_ ?_ ?_)
      · unfold maxLen; omega
      · omega
      · exact HX.out.2.2.size
      intro v2 w2 ho2 hg2 hv2
      rw [← HV.out.2.1] at ho2
      have H2 := Lib.hid (And.intro ho2 (HX.out.2.2.grown hg2 HX.out.2.2.size (fun k e => (OwnL.blk HV.out.2.2 e).1)))
      clear ho2 hg2 hv2 p0 p1 p2 p3
      go_wp2_with fail
      go_roundg (n - (j + 1))
      case measure => have := HX.out.1; omega
      case rel => exact ⟨j + 1, by have := HX.out.1; omega, by go_num, H2.out.1, H2.out.2⟩
    · obtain rfl : j = n := by have := HX.out.1; omega
      have hge : ¬ (j : Int) < (j : Int) := by omega
      have ho := HX.out.2.1
      rw [List.take_of_length_le (by have := H.out.2; omega)] at ho
      have HO := Lib.hid ho
      clear ho
      go_wp2_with fail
      go_ret
      exact ⟨_, rfl, HO.out, HX.out.2.2⟩

theorem sum_take_le (l : List Nat) (j : Nat) : (l.take j).sum ≤ l.sum := by
  have := congrArg List.sum (List.take_append_drop j l)
  rw [List.sum_append] at this
  omega
theorem sum_step {l : List Nat} {j c : Nat} (h : l[j]? = some c) : (l.take (j + 1)).sum = (l.take j).sum + c := by
  rw [List.take_add_one, h, List.sum_append]
  simp

set_option maxRecDepth 100000 in
set_option maxHeartbeats 1000000 in
theorem sum16_any (w : World) (A : Option Addr) (n d : Nat) (xs : List Nat) (h : RV w A (iv xs)) (hn : xs.length = n) (hs : xs.sum ≤ 1000000000000000) (hl : n ≤ 9223372036854775807) :
    Calls Try.prog 19 #[.slice A n d] w fun e w' => e = .returned (.int .i64 (xs.sum : Int)) ∧ w' = w := by
  have H := Lib.hid (And.intro h hn)
  clear h hn
  go_enter Try.func19, Try.ntmps19
  go_wp2_with fail
  go_loopg [3, 4] n (fun k t i wr => ∃ j : Nat, j + k = n ∧ i = .int .i64 j ∧ t = .int .i64 ((xs.take j).sum : Nat) ∧ wr = w)
  case atStart => exact ⟨0, by omega, rfl, rfl, rfl⟩
  case round =>
    obtain ⟨j, hj, rfl, rfl, rfl⟩ := hrel
    by_cases hlt : j < n
    · obtain ⟨c, hc⟩ : ∃ c, xs[j]? = some c := ⟨_, List.getElem?_eq_getElem (by have := H.out.2; omega)⟩
      obtain ⟨ad, hA, hcell⟩ := H.out.1 (by rw [iv_length]; have := H.out.2; omega)
      have y0 := hcell j (.int .i64 (c : Int)) (by rw [iv_get, hc]; rfl)
      subst hA
      have hst := sum_step hc
      have hle := sum_take_le xs (j + 1)
      have HS := Lib.hid (And.intro hst hj)
      have hjn : (j : Int) < (n : Int) := by omega
      have hb : (xs.take j).sum + c ≤ 1000000000000000 := by omega
      clear hst hle hc hcell hj
      generalize hts : (xs.take j).sum = ts at *
      clear hts
      go_wp2_with fail
      go_roundg (n - (j + 1))
      case measure => have := HS.out.2; omega
      case rel => exact ⟨j + 1, by have := HS.out.2; omega, by go_num, by rw [HS.out.1]; go_num, rfl⟩
    · obtain rfl : j = n := by omega
      have hge : ¬ (j : Int) < (j : Int) := by omega
      have ht : xs.take j = xs := List.take_of_length_le (by have := H.out.2; omega)
      rw [ht]
      clear ht hj
      go_wp2_with fail
      go_ret
      exact ⟨rfl, rfl⟩
end Go.Proofs.Ytlioclicopakbaa
