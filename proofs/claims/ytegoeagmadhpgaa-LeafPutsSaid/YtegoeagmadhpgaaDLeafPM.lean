import Derived.Test.YtegoeagmadhpgaaMPlain
import Derived.Test.YtegoeagmadhpgaaMDKey
import Derived.Test.YtegoeagmadhpgaaMApp
import Derived.Test.YtegoeagmadhpgaaFactOM
import Derived.Test.YtegoeagmadhpgaaSealFM
import Derived.Test.YtegoeagmadhpgaaMPut
set_option linter.unusedVariables false
set_option linter.unusedSimpArgs false
/- Layer 15, the document's PutLeaf: contract. -/
namespace Go.Proofs.Ytegoeagmadhpgaa
open Go.RowKit

set_option maxRecDepth 100000 in
set_option maxHeartbeats 4000000 in
theorem dPutLeaf_any (w : World) (s : Int) (A : Option Addr) (n d : Nat) (l : List Fct) (h : FctsIn w A n l) (hv : ∀ f ∈ l, f.val.length ≤ 140737488351232) (hn : n ≤ 140737488355328) :
    Calls Try.prog 22 #[.int .i64 s, .slice A n d] w (PutPageEnd w (putLeafS s l)) := by
  obtain ⟨r, hr⟩ : ∃ r, putLeafS s l = r := ⟨_, rfl⟩
  rw [hr]
  have HO := Lib.hid (fun w h => dOrdered_any w A n d l h hn)
  have H := Lib.hid (show FctsIn w A n l ∧ l.length = n ∧ (∀ f ∈ l, f.val.length ≤ 140737488351232) ∧ putLeafS s l = r from ⟨h, h.1, hv, hr⟩)
  clear h hv hr
  have hbad : ¬ leafOk l → r = ([], 2) := fun hb => by rw [← H.out.2.2.2]; exact if_neg hb
  have HBAD := Lib.hid hbad
  clear hbad
  rcases (show n < 1 ∨ (1 ≤ n ∧ n ≤ 255) ∨ (1 ≤ n ∧ 255 < n) by omega) with h0 | ⟨h1, h2⟩ | ⟨h1, h2⟩
  · have HF := Lib.hid (HBAD.out fun hb => by have := hb.1; have := H.out.2.1; omega)
    go_enter Try.func22, Try.ntmps22
    go_wp2_with fail
    go_ret2
    rw [HF.out]
    exact ⟨_, rfl, OwnB.nil _ _ _, Below.refl _ _⟩
  · have t2 : decide (255 < n) = false := decide_eq_false (by omega)
    have t3 : decide ((255 : Int) < (n : Int)) = false := decide_eq_false (by omega)
    by_cases hord : ordB l = true
    · go_enter Try.func22, Try.ntmps22
      go_wp2_with fail
      have HORD := Lib.hid hord
      clear hord
      refine (HO.out w H.out.1).mono ?_
      rw [HORD.out]
      rintro e w1 ⟨rfl, hb1⟩
      have hlit := own_lit1 w1 5 n (by omega)
      have H1 := Lib.hid (And.intro hlit (hb1.alloc hb1.size (.cells #[.int .u8 (n : Int)] 5)))
      have hs1 := hb1.size
      clear hlit hb1
      go_wp2_with fail
      go_loopg [6, 7] n (fun k v i wr => ∃ j : Nat, j + k = n ∧ i = .int .i64 j ∧ OwnB 5 wr w1.heap.size v (UInt8.ofNat n :: (l.take j).flatMap fctB) ∧ Below w.heap.size w wr ∧ w1.heap.size ≤ wr.heap.size ∧ ∀ f ∈ l.take j, fitF f)
      case atStart => exact ⟨0, by omega, rfl, H1.out.1, H1.out.2, by rw [alloc_sz]; omega, fun f hf => by simp at hf⟩
      case round =>
        obtain ⟨j, hj, rfl, ho, hb, hsz, hall⟩ := hrel
        have HX := Lib.hid (And.intro hj (And.intro ho (And.intro hb hall)))
        clear hj ho hb hall
        by_cases hlt : j < n
        · obtain ⟨f, hf⟩ : ∃ f, l[j]? = some f := ⟨_, List.getElem?_eq_getElem (by have := H.out.2.1; omega)⟩
          obtain ⟨okf, ad, B1, d1, hA, hr1, l1, l2, hblk, x0, x1, x2, x3, x4⟩ := FctsIn.at_ H.out.1 hf
          subst hA
          have up : ∀ {p : Addr} {u : Value}, w.cell? p = some u → p.block < w.heap.size → wr.cell? p = some u := fun hu hp => (World.cell?_of_block (HX.out.2.2.1.block _ hp)).trans hu
          have d0 := up x0 hblk
          have d1' := up x1 hblk
          have d2 := up x2 hblk
          have d3 := up x3 hblk
          have hvl := H.out.2.2.1 f (List.mem_of_getElem? hf)
          have HPK := fun w => dPutKey_any w f.key okf
          have hjn : (j : Int) < (n : Int) := by omega
          have HXX := Lib.hid (And.intro hf (And.intro hr1 (And.intro x4 HPK)))
          clear x0 x1 x2 x3 x4 up hf hr1 okf HPK l1 l2
          have hown := HX.out.2.1
          have hmem := List.mem_of_getElem? HXX.out.1
          have hbadf : ¬ fitF f → r = ([], 2) := fun hb => HBAD.out fun ho => hb (ho.2.2.1 f hmem)
          have HBF := Lib.hid hbadf
          have HMEM := Lib.hid hmem
          clear hbadf hmem
          have up1 : ∀ w1 : World, Below w.heap.size w w1 → w1.cell? ⟨(ad.add (j * 5)).block, (ad.add (j * 5)).off + 4, none⟩ = some (.slice B1 f.val.length d1) := fun w1 hb => by
            have e1 := hb.block _ hblk
            have e2 : w1.cell? ⟨(ad.add (j * 5)).block, (ad.add (j * 5)).off + 4, none⟩ = w.cell? ⟨(ad.add (j * 5)).block, (ad.add (j * 5)).off + 4, none⟩ := World.cell?_of_block e1
            exact e2.trans HXX.out.2.2.1
          have HU := Lib.hid up1
          clear up1
          have hcase : (¬ mayK f.key) ∨ (mayK f.key ∧ (f.val.length < 1 ∨ 255 < f.val.length)) ∨ (mayK f.key ∧ 1 ≤ f.val.length ∧ f.val.length ≤ 255) := by
            by_cases hm : mayK f.key
            · right
              by_cases hl : 1 ≤ f.val.length ∧ f.val.length ≤ 255
              · exact .inr ⟨hm, hl⟩
              · exact .inl ⟨hm, by omega⟩
            · exact .inl hm
          rcases hcase with hm | ⟨hm, hl⟩ | ⟨hm, hl1, hl2⟩
          · have hpk := HXX.out.2.2.2
            rw [show putKeyS f.key = ([], 2) from if_neg hm] at hpk
            have HPK := Lib.hid hpk
            have HF := Lib.hid (HBF.out fun h => hm h.1)
            obtain ⟨⟨fi, fa, fs, fc⟩, fv⟩ := f
            unfold Ky.val at HPK
            dsimp only at d0 d1' d2 d3 HPK
            clear hm hpk hown
            go_wp2_with fail
            refine (HPK.out _).mono ?_
            rintro e w2 ⟨v2, rfl, ho2, hb2⟩
            have H2 := Lib.hid (below_then HX.out.2.2.1 HX.out.2.2.1.size hb2)
            clear ho2 hb2 d0 d1' d2 d3
            dsimp only
            go_wp2_with fail
            go_ret2
            rw [HF.out]
            exact ⟨_, rfl, OwnB.nil _ _ _, H2.out⟩
          · have hpk := HXX.out.2.2.2
            rw [show putKeyS f.key = (keyB f.key, 0) from if_pos hm] at hpk
            have HPK := Lib.hid hpk
            have HF := Lib.hid (HBF.out fun h => by have := h.2; omega)
            obtain ⟨⟨fi, fa, fs, fc⟩, fv⟩ := f
            unfold Ky.val at HPK
            dsimp only at d0 d1' d2 d3 HPK hl HU hvl
            obtain ⟨L, hL⟩ : ∃ L, fv.length = L := ⟨_, rfl⟩
            rw [hL] at hl HU hvl
            clear hm hpk hown hL
            rcases hl with hl | hl
            · go_wp2_with fail
              refine (HPK.out _).mono ?_
              rintro e w2 ⟨v2, rfl, ho2, hb2⟩
              have hb02 := below_then HX.out.2.2.1 HX.out.2.2.1.size hb2
              have d4 := HU.out _ hb02
              have H2 := Lib.hid hb02
              clear ho2 hb2 hb02 d0 d1' d2 d3
              dsimp only
              go_wp2_with fail
              go_ret2
              rw [HF.out]
              exact ⟨_, rfl, OwnB.nil _ _ _, H2.out⟩
            · have t1 : ¬ L < 1 := by omega
              have t4 : decide (255 < L) = true := decide_eq_true hl
              have t5 : decide ((255 : Int) < (L : Int)) = true := decide_eq_true (by omega)
              have t6 : decide (L < 1) = false := decide_eq_false (by omega)
              have t7 : decide ((L : Int) < 1) = false := decide_eq_false (by omega)
              go_wp2_with fail
              refine (HPK.out _).mono ?_
              rintro e w2 ⟨v2, rfl, ho2, hb2⟩
              have hb02 := below_then HX.out.2.2.1 HX.out.2.2.1.size hb2
              have d4 := HU.out _ hb02
              have H2 := Lib.hid hb02
              clear ho2 hb2 hb02 d0 d1' d2 d3
              dsimp only
              go_wp2_with fail
              go_ret2
              rw [HF.out]
              exact ⟨_, rfl, OwnB.nil _ _ _, H2.out⟩
          · have hfit : fitF f := ⟨hm, hl1, hl2⟩
            have hkb := (keyB_length hm).2
            have hpk := HXX.out.2.2.2
            rw [show putKeyS f.key = (keyB f.key, 0) from if_pos hm] at hpk
            have HPK := Lib.hid hpk
            have hle := flat_fct_le (l.take j) HX.out.2.2.2
            rw [List.length_take] at hle
            have hxl : (UInt8.ofNat n :: (l.take j).flatMap fctB).length ≤ 70000 := by rw [List.length_cons]; omega
            have hft : UInt8.ofNat n :: (l.take (j + 1)).flatMap fctB = (UInt8.ofNat n :: (l.take j).flatMap fctB) ++ fctB f := by
              rw [List.take_add_one, HXX.out.1, List.flatMap_append]
              simp
            have hal : ∀ x ∈ l.take (j + 1), fitF x := by
              intro x hx
              rw [List.take_add_one, HXX.out.1] at hx
              rcases List.mem_append.1 hx with hx | hx
              · exact HX.out.2.2.2 x hx
              · simp at hx
                rw [hx]
                exact hfit
            generalize UInt8.ofNat n :: (l.take j).flatMap fctB = Y at hxl hft hown
            have HN := Lib.hid (And.intro hft (And.intro hal hown))
            obtain ⟨⟨fi, fa, fs, fc⟩, fv⟩ := f
            unfold Ky.val at HPK
            dsimp only at d0 d1' d2 d3 HPK hl1 hl2 HU hkb
            generalize hkk : keyB ⟨fi, fa, fs, fc⟩ = kb at *
            obtain ⟨q, hq⟩ : ∃ q, kb.length = q := ⟨_, rfl⟩
            rw [hq] at hkb
            obtain ⟨L, hL⟩ : ∃ L, fv.length = L := ⟨_, rfl⟩
            rw [hL] at hl1 hl2 HU
            have HKK := Lib.hid (And.intro hkk (And.intro hq hL))
            have t4 : decide (255 < L) = false := decide_eq_false (by omega)
            have t5 : decide ((255 : Int) < (L : Int)) = false := decide_eq_false (by omega)
            have t6 : decide (L < 1) = false := decide_eq_false (by omega)
            have t7 : decide ((L : Int) < 1) = false := decide_eq_false (by omega)
            have t8 : IntKind.u8.wrap (L : Int) = (L : Int) := by rw [IntKind.wrap_u8]; omega
            have hLb : (L : Int) = ((UInt8.ofNat L).toNat : Int) := by rw [UInt8.toNat_ofNat']; omega
            have HLB := Lib.hid hLb
            clear hm hpk hown hL hle hft hal hkk hq hfit hLb hvl
            go_wp2_with fail
            refine (HPK.out _).mono ?_
            rintro e w2 ⟨v2, rfl, ho2, hb2⟩
            obtain ⟨A2, d2', rfl, hrv2, _, _, _⟩ := ho2.slice
            have hb02 := below_then HX.out.2.2.1 HX.out.2.2.1.size hb2
            have d4 := HU.out _ hb02
            have hf2 : FarIn w2 A2 u6 := FarIn.own ho2 fun k e => (HN.out.2.2.blk e).2
            have H2 := Lib.hid (And.intro hrv2 (And.intro (HN.out.2.2.below hb2) (And.intro hb02 hf2)))
            have hs2 := hb2.size
            clear ho2 hrv2 hb2 hb02 hf2 d0 d1' d2 d3
            dsimp only
            rw [HKK.out.2.1]
            go_wp2_with (at_builtin; refine wpList_appB _ rfl _ _ 22 rfl w1.heap.size 5 Try.underlying22 u8info u6 Y rfl H2.out.2.1 A2 q d2' kb rfl HKK.out.2.1 H2.out.1 ?_ ?_ ?_)
            · rw [HKK.out.2.1]; omega
            · omega
            intro v3 w3 ho3 hg3 hv3
            have hb3 := H2.out.2.2.1.grown hg3 H2.out.2.2.1.size (fun k e => by have := (H2.out.2.1.blk e).1; omega)
            have d4' := HU.out _ hb3
            obtain ⟨Y1, hY1⟩ : ∃ Y1, Y ++ kb = Y1 := ⟨_, rfl⟩
            have hl1' : Y1.length = Y.length + q := by rw [← hY1, List.length_append, HKK.out.2.1]
            rw [hY1] at ho3
            have HY1 := Lib.hid (And.intro hY1 hl1')
            have hs3 := hg3.size
            have H3 := Lib.hid (And.intro ho3 hb3)
            clear hY1 hl1' ho3 hb3 hg3 hv3 d4
            go_wp2_with (at_builtin; refine wpList_appB1V _ rfl _ _ 22 rfl w1.heap.size 5 Try.underlying22 u8info v3 Y1 rfl H3.out.1 _ (UInt8.ofNat L) _ rfl rfl HLB.out ?_ ?_ ?_)
            · rw [HY1.out.2]; omega
            · omega
            intro v4 w4 ho4 hg4 hv4
            have hb4 := H3.out.2.grown hg4 H3.out.2.size (fun k e => by have := (H3.out.1.blk e).1; omega)
            have d4 := HU.out _ hb4
            obtain ⟨Y2, hY2⟩ : ∃ Y2, Y1 ++ [UInt8.ofNat L] = Y2 := ⟨_, rfl⟩
            have hl2' : Y2.length = Y1.length + 1 := by rw [← hY2, List.length_append]; rfl
            rw [hY2] at ho4
            have HY2 := Lib.hid (And.intro hY2 hl2')
            have hs4 := hg4.size
            have H4 := Lib.hid (And.intro ho4 (And.intro hb4 (HXX.out.2.1.below hb4)))
            clear hY2 hl2' ho4 hb4 hg4 hv4 d4'
            go_wp2_with (at_builtin; refine wpList_appB _ rfl _ _ 22 rfl w1.heap.size 5 Try.underlying22 u8info v4 Y2 rfl H4.out.1 B1 L d1 fv rfl HKK.out.2.2 H4.out.2.2 ?_ ?_ ?_)
            · rw [HY2.out.2, HY1.out.2, HKK.out.2.2]; omega
            · omega
            intro v5 w5 ho5 hg5 hv5
            have hb5 := H4.out.2.1.grown hg5 H4.out.2.1.size (fun k e => by have := (H4.out.1.blk e).1; omega)
            have heq : Y2 ++ fv = UInt8.ofNat n :: (l.take (j + 1)).flatMap fctB := by
              have hcb : fctB ⟨⟨fi, fa, fs, fc⟩, fv⟩ = kb ++ (UInt8.ofNat L :: fv) := by
                show keyB ⟨fi, fa, fs, fc⟩ ++ (UInt8.ofNat fv.length :: fv) = _
                rw [HKK.out.1, HKK.out.2.2]
              rw [HN.out.1, hcb, ← HY2.out.1, ← HY1.out.1]
              simp
            rw [heq] at ho5
            have hs5 := hg5.size
            have H5 := Lib.hid (And.intro ho5 hb5)
            clear ho5 hb5 hg5 hv5 heq d4
            go_wp2_with fail
            go_roundg (n - (j + 1))
            case measure => have := HX.out.1; omega
            case rel => exact ⟨j + 1, by have := HX.out.1; omega, by go_num, H5.out.1, H5.out.2, by omega, HN.out.2.1⟩
        · obtain rfl : j = n := by have := HX.out.1; omega
          have hge : ¬ (j : Int) < (j : Int) := by omega
          have ho := HX.out.2.1
          have hall := HX.out.2.2.2
          rw [List.take_of_length_le (by have := H.out.2.1; omega)] at ho hall
          have hok : leafOk l := ⟨by have := H.out.2.1; omega, by have := H.out.2.1; omega, hall, HORD.out⟩
          have hle := leafB_le hok
          have hlb : leafB l = UInt8.ofNat j :: l.flatMap fctB := by unfold leafB; rw [H.out.2.1]
          rw [← hlb] at ho
          have hrr : r = putPageS s 4 (leafB l) := by rw [← H.out.2.2.2]; exact if_pos hok
          generalize leafB l = X at *
          obtain ⟨A3, d3, rfl, hrv, hl, hm, _⟩ := ho.slice
          have HF := Lib.hid (And.intro hrr hrv)
          clear hall hok hlb ho hrr hrv
          go_wp2_with fail
          refine (dPut_any wr s 4 A3 d3 X HF.out.2 (Nat.le_trans hl hm)).mono ?_
          rintro e w3 ⟨v3, rfl, ho3, hb3⟩
          have H3 := Lib.hid (And.intro ho3 hb3)
          clear ho3 hb3
          go_wp2_with fail
          go_ret2
          rw [HF.out.1]
          exact ⟨_, rfl, H3.out.1.lower HX.out.2.2.1.size, below_then HX.out.2.2.1 HX.out.2.2.1.size H3.out.2⟩
    · have HORD := Lib.hid (show ordB l = false by simpa using hord)
      have HF := Lib.hid (HBAD.out fun hb => hord hb.2.2.2)
      clear hord
      go_enter Try.func22, Try.ntmps22
      go_wp2_with fail
      refine (HO.out w H.out.1).mono ?_
      rw [HORD.out]
      rintro e w1 ⟨rfl, hb1⟩
      have H1 := Lib.hid hb1
      clear hb1
      go_wp2_with fail
      go_ret2
      rw [HF.out]
      exact ⟨_, rfl, OwnB.nil _ _ _, H1.out⟩
  · have HF := Lib.hid (HBAD.out fun hb => by have := hb.2.1; have := H.out.2.1; omega)
    have t2 : decide (255 < n) = true := decide_eq_true (by omega)
    have t3 : decide ((255 : Int) < (n : Int)) = true := decide_eq_true (by omega)
    go_enter Try.func22, Try.ntmps22
    go_wp2_with fail
    go_ret2
    rw [HF.out]
    exact ⟨_, rfl, OwnB.nil _ _ _, Below.refl _ _⟩
end Go.Proofs.Ytegoeagmadhpgaa
