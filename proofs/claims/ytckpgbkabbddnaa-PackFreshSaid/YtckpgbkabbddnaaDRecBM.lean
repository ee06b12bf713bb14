import Derived.Test.YtckpgbkabbddnaaMDKey
import Derived.Test.YtckpgbkabbddnaaDRowM
import Derived.Test.YtckpgbkabbddnaaAppBM
import Derived.Test.YtckpgbkabbddnaaRecPM
import Derived.Test.YtckpgbkabbddnaaMSeal
set_option linter.unusedVariables false
set_option linter.unusedSimpArgs false
/- Layer 11, the document's: may changes be; a body; Put: contracts. -/
namespace Go.Proofs.Ytckpgbkabbddnaa
open Go.RowKit

set_option maxRecDepth 100000 in
set_option maxHeartbeats 1000000 in
theorem dMay1_any (w : World) (k : Ky) (hk : okKy k) (B : Option Addr) (n d : Nat) (x : List UInt8) (hx : x.length = n) (gone : Bool) :
    Calls Try.prog 64 #[.agg #[.int .i64 k.ino, .int .u8 (k.what.toNat : Int), .string k.name, .int .i64 k.chunk, .slice B n d, .bool gone]] w
      fun e w' => e = .returned (.bool (decide (chgOk ⟨k, x, gone⟩))) ∧ Below w.heap.size w w' := by
  have HMK := Lib.hid (fun w => dMayK_any w k hk)
  have hdef : decide (chgOk ⟨k, x, gone⟩) = (decide (mayK k) && (if gone = true then decide (n = 0) else (decide (1 ≤ n) && decide (n ≤ 255)))) := by
    rw [Bool.eq_iff_iff]
    unfold chgOk valOk
    cases gone <;> simp [hx]
  rw [hdef]
  clear hdef hk hx
  have HB := Lib.hid (Blk.new w 53 #[.int .i64 k.ino, .int .u8 (k.what.toNat : Int), .string k.name, .int .i64 k.chunk, .slice B n d, .bool gone])
  obtain ⟨m, hm⟩ : ∃ m, decide (mayK k) = m := ⟨_, rfl⟩
  rw [hm] at HMK ⊢
  clear hm
  obtain ⟨i, a, s, c⟩ := k
  unfold Ky.val at HMK
  dsimp only at HMK HB ⊢
  generalize (a.toNat : Int) = an at *
  cases m
  · rw [Bool.false_and]
    go_enter Try.func64, Try.ntmps64
    go_wp2_with (go_at_call 55; refine (HMK.out _).mono ?_; rintro e w1 ⟨rfl, hb1⟩; have H1 := Lib.hid (below_new hb1); clear hb1)
    go_ret
    exact ⟨rfl, H1.out⟩
  · cases gone
    · rcases (show n < 1 ∨ (1 ≤ n ∧ n ≤ 255) ∨ 255 < n by omega) with h | ⟨h1, h2⟩ | h
      · rw [show (true && if false = true then decide (n = 0) else (decide (1 ≤ n) && decide (n ≤ 255))) = false by simp <;> try omega]
        go_enter Try.func64, Try.ntmps64
        go_wp2_with (go_at_call 55; refine (HMK.out _).mono ?_; rintro e w1 ⟨rfl, hb1⟩; have k1 := HB.out.below hb1 HB.out.lt; have c4 := k1.cell 4; have c5 := k1.cell 5; simp at c4 c5; have H1 := Lib.hid (below_new hb1); clear hb1 k1)
        go_ret
        exact ⟨rfl, H1.out⟩
      · rw [show (true && if false = true then decide (n = 0) else (decide (1 ≤ n) && decide (n ≤ 255))) = true by simp <;> try omega]
        have t2 : decide (n ≤ 255) = true := decide_eq_true h2
        have t3 : decide ((n : Int) ≤ 255) = true := decide_eq_true (by omega)
        go_enter Try.func64, Try.ntmps64
        go_wp2_with (go_at_call 55; refine (HMK.out _).mono ?_; rintro e w1 ⟨rfl, hb1⟩; have k1 := HB.out.below hb1 HB.out.lt; have c4 := k1.cell 4; have c5 := k1.cell 5; simp at c4 c5; have H1 := Lib.hid (below_new hb1); clear hb1 k1)
        go_ret
        exact ⟨rfl, H1.out⟩
      · rw [show (true && if false = true then decide (n = 0) else (decide (1 ≤ n) && decide (n ≤ 255))) = false by simp <;> try omega]
        have t1 : 1 ≤ n := by omega
        have t2 : decide (n ≤ 255) = false := decide_eq_false (by omega)
        have t3 : decide ((n : Int) ≤ 255) = false := decide_eq_false (by omega)
        go_enter Try.func64, Try.ntmps64
        go_wp2_with (go_at_call 55; refine (HMK.out _).mono ?_; rintro e w1 ⟨rfl, hb1⟩; have k1 := HB.out.below hb1 HB.out.lt; have c4 := k1.cell 4; have c5 := k1.cell 5; simp at c4 c5; have H1 := Lib.hid (below_new hb1); clear hb1 k1)
        go_ret
        exact ⟨rfl, H1.out⟩
    · rw [show (true && if true = true then decide (n = 0) else (decide (1 ≤ n) && decide (n ≤ 255))) = decide (n = 0) by simp]
      have t1 : ((n : Int) == 0) = decide (n = 0) := by rw [Bool.eq_iff_iff]; simp <;> try omega
      generalize hq : decide (n = 0) = q at *
      clear hq
      go_enter Try.func64, Try.ntmps64
      go_wp2_with (go_at_call 55; refine (HMK.out _).mono ?_; rintro e w1 ⟨rfl, hb1⟩; have k1 := HB.out.below hb1 HB.out.lt; have c4 := k1.cell 4; have c5 := k1.cell 5; simp at c4 c5; have H1 := Lib.hid (below_new hb1); clear hb1 k1)
      go_ret
      exact ⟨rfl, H1.out⟩

set_option maxRecDepth 100000 in
set_option maxHeartbeats 1000000 in
theorem dMays_any (w : World) (A : Option Addr) (n d : Nat) (cs : List Chg) (h : ChgsIn w A n cs) (hn : n ≤ maxLen) :
    Calls Try.prog 56 #[.slice A n d] w fun e w' => e = .returned (.bool (decide (bodyOk cs))) ∧ Below w.heap.size w w' := by
  unfold maxLen at hn
  obtain ⟨r, hr⟩ : ∃ r, decide (bodyOk cs) = r := ⟨_, rfl⟩
  rw [hr]
  have H := Lib.hid (And.intro h (And.intro h.1 hr))
  clear h hr
  rcases (show n < 1 ∨ (1 ≤ n ∧ n ≤ 255) ∨ (1 ≤ n ∧ 255 < n) by omega) with h0 | ⟨h1, h2⟩ | ⟨h1, h2⟩
  · have HF := Lib.hid (show false = r by rw [← H.out.2.2]; exact (decide_eq_false fun h => by have := h.1; have := H.out.2.1; omega).symm)
    go_enter Try.func56, Try.ntmps56
    go_wp2_with fail
    go_ret
    exact ⟨ret_bool HF.out, Below.refl _ _⟩
  · go_enter Try.func56, Try.ntmps56
    go_wp2_with fail
    go_loopg [3] n (fun k i wr => ∃ j : Nat, j + k = n ∧ i = .int .i64 j ∧ Below w.heap.size w wr ∧ ∀ c ∈ cs.take j, chgOk c)
    case atStart => exact ⟨0, by omega, rfl, Below.refl _ _, fun c hc => by simp at hc⟩
    case round =>
      obtain ⟨j, hj, rfl, hb, hall⟩ := hrel
      have HX := Lib.hid (And.intro hj (And.intro hb hall))
      clear hj hb hall
      by_cases hlt : j < n
      · obtain ⟨c, hc⟩ : ∃ c, cs[j]? = some c := ⟨_, List.getElem?_eq_getElem (by have := H.out.2.1; omega)⟩
        obtain ⟨hok, ad, B, dd, hA, hrv, hl1, hl2, hblk, c0, c1, c2, c3, c4, c5⟩ := H.out.1.at_ hc
        subst hA
        have up : ∀ {p : Addr} {u : Value}, w.cell? p = some u → p.block = (ad.add (j * 6)).block → wr.cell? p = some u := fun hu hp => (World.cell?_of_block (HX.out.2.1.block _ (by rw [hp]; exact hblk))).trans hu
        have d0 := up c0 rfl
        have d1 := up c1 rfl
        have d2 := up c2 rfl
        have d3 := up c3 rfl
        have d4 := up c4 rfl
        have d5 := up c5 rfl
        have hjn : (j : Int) < (n : Int) := by omega
        have HM := Lib.hid (fun w => dMay1_any w c.key hok B c.val.length dd c.val rfl c.gone)
        clear c0 c1 c2 c3 c4 c5 up hrv hl1 hl2 hblk hok
        have HC := Lib.hid hc
        clear hc
        by_cases hch : chgOk c
        · have hal : ∀ x ∈ cs.take (j + 1), chgOk x := by
            intro x hx
            rw [List.take_add_one, HC.out] at hx
            rcases List.mem_append.1 hx with hx | hx
            · exact HX.out.2.2 x hx
            · simp at hx
              rw [hx]
              exact hch
          have HAL := Lib.hid hal
          obtain ⟨⟨i, a, s, ch⟩, l, gn⟩ := c
          dsimp only at d0 d1 d2 d3 d4 d5 HM
          rw [decide_eq_true hch] at HM
          clear hal hch
          go_wp2_with fail
          refine (HM.out _).mono ?_
          rintro e w1 ⟨rfl, hb1⟩
          have H1 := Lib.hid (below_then HX.out.2.1 HX.out.2.1.size hb1)
          clear hb1 d0 d1 d2 d3 d4 d5
          go_wp2_with fail
          go_roundg (n - (j + 1))
          case measure => have := HX.out.1; omega
          case rel => exact ⟨j + 1, by have := HX.out.1; omega, by go_num, H1.out, HAL.out⟩
        · have HF := Lib.hid (show false = r by rw [← H.out.2.2]; exact (decide_eq_false fun h => hch (h.2.2 c (List.mem_of_getElem? HC.out))).symm)
          obtain ⟨⟨i, a, s, ch⟩, l, gn⟩ := c
          dsimp only at d0 d1 d2 d3 d4 d5 HM
          rw [decide_eq_false hch] at HM
          clear hch
          go_wp2_with fail
          refine (HM.out _).mono ?_
          rintro e w1 ⟨rfl, hb1⟩
          have H1 := Lib.hid (below_then HX.out.2.1 HX.out.2.1.size hb1)
          clear hb1 d0 d1 d2 d3 d4 d5
          go_wp2_with fail
          go_ret
          exact ⟨ret_bool HF.out, H1.out⟩
      · obtain rfl : j = n := by have := HX.out.1; omega
        have hge : ¬ (j : Int) < (j : Int) := by omega
        have hall := HX.out.2.2
        rw [List.take_of_length_le (by have := H.out.2.1; omega)] at hall
        have HF := Lib.hid (show true = r by rw [← H.out.2.2]; exact (decide_eq_true ⟨by have := H.out.2.1; omega, by have := H.out.2.1; omega, hall⟩).symm)
        clear hall
        go_wp2_with fail
        go_ret
        exact ⟨ret_bool HF.out, HX.out.2.1⟩
  · have HF := Lib.hid (show false = r by rw [← H.out.2.2]; exact (decide_eq_false fun h => by have := h.2.1; have := H.out.2.1; omega).symm)
    go_enter Try.func56, Try.ntmps56
    go_wp2_with fail
    go_ret
    exact ⟨ret_bool HF.out, Below.refl _ _⟩

/-- append of a list of bytes onto a list of the call's own: the new one. -/
def DBodyEnd (w : World) (X : List UInt8) (e : Ending) (w' : World) : Prop := ∃ v, e = .returned v ∧ OwnB 5 w' w.heap.size v X ∧ Below w.heap.size w w'

set_option maxRecDepth 100000 in
set_option maxHeartbeats 2000000 in
theorem dRecBody_any (w : World) (A : Option Addr) (n d : Nat) (cs : List Chg) (h : ChgsIn w A n cs) (hok : bodyOk cs) :
    Calls Try.prog 58 #[.slice A n d] w (DBodyEnd w (bodyB cs)) := by
  have h1 : 1 ≤ n := by rw [← h.1]; exact hok.1
  have h2 : n ≤ 255 := by rw [← h.1]; exact hok.2.1
  have hbb : bodyB cs = UInt8.ofNat n :: cs.flatMap chgB := by unfold bodyB; rw [h.1]
  rw [hbb]
  obtain ⟨X, hX⟩ : ∃ X, UInt8.ofNat n :: cs.flatMap chgB = X := ⟨_, rfl⟩
  rw [hX]
  have H := Lib.hid (And.intro h (And.intro h.1 (And.intro hok.2.2 hX)))
  clear h hok hbb hX
  go_enter Try.func58, Try.ntmps58
  go_wp2_with fail
  go_loopg [3, 4] n (fun k v i wr => ∃ j : Nat, j + k = n ∧ i = .int .i64 j ∧ OwnB 5 wr w.heap.size v (UInt8.ofNat n :: (cs.take j).flatMap chgB) ∧ Below w.heap.size w wr)
  case atStart => exact ⟨0, by omega, rfl, own_lit1 w _ n (by omega), (Below.refl _ _).alloc (Nat.le_refl _) _⟩
  case round =>
    obtain ⟨j, hj, rfl, ho, hb⟩ := hrel
    have HX := Lib.hid (And.intro hj (And.intro ho hb))
    clear hj ho hb
    by_cases hlt : j < n
    · obtain ⟨c, hc⟩ : ∃ c, cs[j]? = some c := ⟨_, List.getElem?_eq_getElem (by have := H.out.2.1; omega)⟩
      obtain ⟨hok, ad, B, dd, hA, hrv, hl1, hl2, hblk, c0, c1, c2, c3, c4, c5⟩ := H.out.1.at_ hc
      subst hA
      have up : ∀ {p : Addr} {u : Value}, w.cell? p = some u → p.block = (ad.add (j * 6)).block → wr.cell? p = some u := fun hu hp => (World.cell?_of_block (HX.out.2.2.block _ (by rw [hp]; exact hblk))).trans hu
      have d0 := up c0 rfl
      have d1 := up c1 rfl
      have d2 := up c2 rfl
      have d3 := up c3 rfl
      have hch := H.out.2.2.1 c (List.mem_of_getElem? hc)
      have hkb := (keyB_length hch.1).2
      have HPK := fun w => dPutKey_any w c.key hok
      rw [show putKeyS c.key = (keyB c.key, 0) from if_pos hch.1] at HPK
      have HPK := Lib.hid HPK
      have hle := flat_chg_le (cs.take j) (fun x hx => H.out.2.2.1 x (List.mem_of_mem_take hx))
      rw [List.length_take] at hle
      have hxl : (UInt8.ofNat n :: (cs.take j).flatMap chgB).length ≤ 70000 := by rw [List.length_cons]; omega
      have hft : UInt8.ofNat n :: (cs.take (j + 1)).flatMap chgB = (UInt8.ofNat n :: (cs.take j).flatMap chgB) ++ chgB c := by
        rw [List.take_add_one, hc, List.flatMap_append]
        simp
      have hown := HX.out.2.1
      generalize UInt8.ofNat n :: (cs.take j).flatMap chgB = Y at hxl hft hown
      have hjn : (j : Int) < (n : Int) := by omega
      have HXX := Lib.hid (And.intro c4 (And.intro c5 (And.intro hrv (And.intro hft (And.intro hown hch.2)))))
      clear c0 c1 c2 c3 c4 c5 up hc hok hrv hl1 hl2 hle hft hown hch
      obtain ⟨⟨i, a, s, ch⟩, l, gn⟩ := c
      unfold Ky.val at HPK
      dsimp only at d0 d1 d2 d3 HPK HXX hkb
      generalize hkk : keyB ⟨i, a, s, ch⟩ = kb at *
      have HKK := Lib.hid hkk
      clear hkk
      obtain ⟨q, hq⟩ : ∃ q, kb.length = q := ⟨_, rfl⟩
      rw [hq] at hkb
      have HQ := Lib.hid hq
      clear hq
      go_wp2_with fail
      refine (HPK.out _).mono ?_
      rintro e w1 ⟨v1, rfl, ho1, hb1⟩
      obtain ⟨A1, e1, rfl, hrv1, _, _, _⟩ := ho1.slice
      dsimp only at hrv1 ⊢
      rw [HQ.out]
      have hb01 := below_then HX.out.2.2 HX.out.2.2.size hb1
      have up1 : ∀ {p : Addr} {u : Value}, w.cell? p = some u → p.block = (ad.add (j * 6)).block → w1.cell? p = some u := fun hu hp => (World.cell?_of_block (hb01.block _ (by rw [hp]; exact hblk))).trans hu
      have d4 := up1 HXX.out.1 rfl
      have d5 := up1 HXX.out.2.1 rfl
      clear up1
      have hf1 : FarIn w1 A1 u3 := FarIn.own ho1 fun k e => (HXX.out.2.2.2.2.1.blk e).2
      have H1 := Lib.hid (And.intro hrv1 (And.intro (HXX.out.2.2.2.2.1.below hb1) (And.intro hb01 hf1)))
      clear hf1
      have hs1 := hb01.size
      clear ho1 hrv1 hb1 hb01 d0 d1 d2 d3
      cases gn
      · have hvo := HXX.out.2.2.2.2.2
        unfold valOk at hvo
        rw [if_neg (by simp)] at hvo
        dsimp only at hvo
        obtain ⟨L, hL⟩ : ∃ L, l.length = L := ⟨_, rfl⟩
        rw [hL] at hvo d4
        have HR := Lib.hid (And.intro hL (dRow_at w1 B L dd l hL (HXX.out.2.2.1.below H1.out.2.2.1) hvo.2))
        clear hL
        obtain ⟨hv1, hv2⟩ := hvo
        go_wp2_with fail
        refine HR.out.2.mono ?_
        rintro e w2 ⟨v2, rfl, ho2, hb2⟩
        obtain ⟨A2, e2, rfl, hrv2, _, _, _⟩ := ho2.slice
        dsimp only at hrv2 ⊢
        have hrl : (UInt8.ofNat L :: l).length = L + 1 := by rw [List.length_cons, HR.out.1]
        rw [hrl]
        have hb02 := below_then H1.out.2.2.1 H1.out.2.2.1.size hb2
        have hf2 : FarIn w2 A2 u3 := FarIn.own ho2 fun k e => (H1.out.2.1.blk e).2
        have H2 := Lib.hid (And.intro hrv2 (And.intro (H1.out.2.1.below hb2) (And.intro hb02 (And.intro (H1.out.1.below hb2) (And.intro hrl (And.intro hf2 (H1.out.2.2.2.below hb2)))))))
        have hs2 := hb02.size
        clear ho2 hrv2 hb2 hb02 hrl hf2 d4 d5
        generalize hRR : UInt8.ofNat L :: l = RR at *
        have HRR := Lib.hid hRR
        clear hRR
        go_wp2_with (at_builtin; refine wpList_appB1V _ rfl _ _ 28 rfl w.heap.size 5 Try.underlying28 u8info u3 Y rfl H2.out.2.1 _ 1 _ rfl rfl rfl (by omega) hs2 ?_)
        intro v3 w3 ho3 hg3 hv3
        have hb3 := H2.out.2.2.1.grown hg3 hs2 (fun k e => (H2.out.2.1.blk e).1)
        obtain ⟨Y1, hY1⟩ : ∃ Y1, Y ++ [1] = Y1 := ⟨_, rfl⟩
        have hl1 : Y1.length = Y.length + 1 := by rw [← hY1, List.length_append]; rfl
        rw [hY1] at ho3
        have HY1 := Lib.hid (And.intro hY1 hl1)
        clear hY1 hl1
        have H3 := Lib.hid (And.intro ho3 (And.intro hb3 (And.intro (H2.out.2.2.2.1.far H2.out.2.2.2.2.2.2 hg3) (And.intro (H2.out.2.2.2.2.2.2.app' hg3.size hv3) (And.intro (H2.out.1.far H2.out.2.2.2.2.2.1 hg3) (H2.out.2.2.2.2.2.1.app' hg3.size hv3))))))
        have hs3 := hb3.size
        clear ho3 hb3 hg3 hv3
        go_wp2_with (at_builtin; refine wpList_appB _ rfl _ _ 28 rfl w.heap.size 5 Try.underlying28 u8info v3 Y1 rfl H3.out.1 A1 q e1 kb rfl HQ.out H3.out.2.2.1 ?_ hs3 ?_)
        · rw [HY1.out.2, HQ.out]; omega
        intro v4 w4 ho4 hg4 hv4
        have hb4 := H3.out.2.1.grown hg4 hs3 (fun k e => (H3.out.1.blk e).1)
        obtain ⟨Y2, hY2⟩ : ∃ Y2, Y1 ++ kb = Y2 := ⟨_, rfl⟩
        have hl2 : Y2.length = Y1.length + q := by rw [← hY2, List.length_append, HQ.out]
        rw [hY2] at ho4
        have HY2 := Lib.hid (And.intro hY2 hl2)
        clear hY2 hl2
        have H4 := Lib.hid (And.intro ho4 (And.intro hb4 (H3.out.2.2.2.2.1.far H3.out.2.2.2.2.2 hg4)))
        have hs4 := hb4.size
        clear ho4 hb4 hg4 hv4
        go_wp2_with (at_builtin; refine wpList_appB _ rfl _ _ 28 rfl w.heap.size 5 Try.underlying28 u8info v4 Y2 rfl H4.out.1 A2 (L + 1) e2 RR rfl H2.out.2.2.2.2.1 H4.out.2.2 ?_ hs4 ?_)
        · rw [HY2.out.2, HY1.out.2, H2.out.2.2.2.2.1]; omega
        intro v5 w5 ho5 hg5 hv5
        have hb5 := H4.out.2.1.grown hg5 hs4 (fun k e => (H4.out.1.blk e).1)
        have heq : Y2 ++ RR = UInt8.ofNat n :: (cs.take (j + 1)).flatMap chgB := by
          have hcb : chgB ⟨⟨i, a, s, ch⟩, l, false⟩ = 1 :: (kb ++ RR) := by
            show 1 :: (keyB ⟨i, a, s, ch⟩ ++ (UInt8.ofNat l.length :: l)) = _
            rw [HKK.out, HR.out.1, HRR.out]
          rw [HXX.out.2.2.2.1, hcb, ← HY2.out.1, ← HY1.out.1]
          simp
        rw [heq] at ho5
        have H5 := Lib.hid (And.intro ho5 hb5)
        clear ho5 hb5 hg5 hv5 heq
        go_wp2_with fail
        go_roundg (n - (j + 1))
        case measure => have := HX.out.1; omega
        case rel => exact ⟨j + 1, by have := HX.out.1; omega, by go_num, H5.out.1, H5.out.2⟩
      · go_wp2_with (at_builtin; refine wpList_appB1V _ rfl _ _ 28 rfl w.heap.size 5 Try.underlying28 u8info u3 Y rfl H1.out.2.1 _ 0 _ rfl rfl rfl (by omega) hs1 ?_)
        intro v3 w3 ho3 hg3 hv3
        have hb3 := H1.out.2.2.1.grown hg3 hs1 (fun k e => (H1.out.2.1.blk e).1)
        obtain ⟨Y1, hY1⟩ : ∃ Y1, Y ++ [0] = Y1 := ⟨_, rfl⟩
        have hl1 : Y1.length = Y.length + 1 := by rw [← hY1, List.length_append]; rfl
        rw [hY1] at ho3
        have HY1 := Lib.hid (And.intro hY1 hl1)
        clear hY1 hl1
        have H3 := Lib.hid (And.intro ho3 (And.intro hb3 (H1.out.1.far H1.out.2.2.2 hg3)))
        have hs3 := hb3.size
        clear ho3 hb3 hg3 hv3
        go_wp2_with (at_builtin; refine wpList_appB _ rfl _ _ 28 rfl w.heap.size 5 Try.underlying28 u8info v3 Y1 rfl H3.out.1 A1 q e1 kb rfl HQ.out H3.out.2.2 ?_ hs3 ?_)
        · rw [HY1.out.2, HQ.out]; omega
        intro v4 w4 ho4 hg4 hv4
        have hb4 := H3.out.2.1.grown hg4 hs3 (fun k e => (H3.out.1.blk e).1)
        have heq : Y1 ++ kb = UInt8.ofNat n :: (cs.take (j + 1)).flatMap chgB := by
          have hcb : chgB ⟨⟨i, a, s, ch⟩, l, true⟩ = 0 :: kb := by
            show 0 :: keyB ⟨i, a, s, ch⟩ = _
            rw [HKK.out]
          rw [HXX.out.2.2.2.1, hcb, ← HY1.out.1]
          simp
        rw [heq] at ho4
        have H4 := Lib.hid (And.intro ho4 hb4)
        clear ho4 hb4 hg4 hv4 heq
        go_wp2_with fail
        go_roundg (n - (j + 1))
        case measure => have := HX.out.1; omega
        case rel => exact ⟨j + 1, by have := HX.out.1; omega, by go_num, H4.out.1, H4.out.2⟩
    · obtain rfl : j = n := by have := HX.out.1; omega
      have hge : ¬ (j : Int) < (j : Int) := by omega
      have ho := HX.out.2.1
      rw [List.take_of_length_le (by have := H.out.2.1; omega), H.out.2.2.2] at ho
      have HO := Lib.hid ho
      clear ho
      go_wp2_with fail
      go_ret
      exact ⟨_, rfl, HO.out, HX.out.2.2⟩

set_option maxRecDepth 100000 in
set_option maxHeartbeats 1000000 in
theorem dRecPut_any (w : World) (s : Int) (A : Option Addr) (n d : Nat) (cs : List Chg) (h : ChgsIn w A n cs) (hn : n ≤ maxLen) :
    Calls Try.prog 37 #[.int .i64 s, .slice A n d] w (PutPageEnd w (recPutS s cs)) := by
  have HM := dMays_any w A n d cs h hn
  by_cases hb : bodyOk cs
  · have h2 : recPutS s cs = putPageS s 2 (bodyB cs) := if_pos hb
    rw [decide_eq_true hb] at HM
    have HM := Lib.hid HM
    rw [h2]
    have HBD := Lib.hid (fun w h => dRecBody_any w A n d cs h hb)
    have H := Lib.hid h
    clear h2 hb h
    generalize bodyB cs = X at *
    go_enter Try.func37, Try.ntmps37
    go_wp2_with fail
    refine HM.out.mono ?_
    rintro e w0 ⟨rfl, hb0⟩
    have H0 := Lib.hid (And.intro hb0 (ListIn.below chg_len (by decide) H.out hb0))
    clear hb0
    go_wp2_with fail
    refine (HBD.out w0 H0.out.2).mono ?_
    rintro e w1 ⟨v1, rfl, ho1, hb1⟩
    obtain ⟨A1, d1, rfl, hrv, hl, hm, _⟩ := ho1.slice
    have H1 := Lib.hid (And.intro (below_then H0.out.1 H0.out.1.size hb1) (And.intro hrv (Nat.le_trans hl hm)))
    clear hb1 hrv hl hm ho1
    go_wp2_with fail
    refine (dPut_any w1 s 2 A1 d1 X H1.out.2.1 H1.out.2.2).mono ?_
    rintro e w3 ⟨v3, rfl, ho3, hb3⟩
    have H3 := Lib.hid (And.intro ho3 hb3)
    clear ho3 hb3
    go_wp2_with fail
    go_ret2
    exact ⟨_, rfl, H3.out.1.lower H1.out.1.size, below_then H1.out.1 H1.out.1.size H3.out.2⟩
  · have h2 : recPutS s cs = ([], 2) := if_neg hb
    rw [decide_eq_false hb] at HM
    have HM := Lib.hid HM
    rw [h2]
    clear h2 hb h
    go_enter Try.func37, Try.ntmps37
    go_wp2_with fail
    refine HM.out.mono ?_
    rintro e w1 ⟨rfl, hb1⟩
    have H1 := Lib.hid hb1
    clear hb1
    go_wp2_with fail
    go_ret2
    exact ⟨_, rfl, OwnB.nil _ _ _, H1.out⟩
end Go.Proofs.Ytckpgbkabbddnaa
