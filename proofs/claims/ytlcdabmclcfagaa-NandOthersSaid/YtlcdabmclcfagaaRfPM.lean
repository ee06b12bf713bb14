import Derived.Test.YtlcdabmclcfagaaRfDM
import Derived.Test.YtlcdabmclcfagaaMNo
set_option linter.unusedVariables false
set_option linter.unusedSimpArgs false
/- Layer 3: the document's Program: contract. -/
namespace Go.Proofs.Ytlcdabmclcfagaa
open Go.RowKit

theorem page_step {c : Chp} (h : ChOk c) {b p : Nat} (hb : b < c.B) (hp : p < c.P) :
    blk255 ((c.row b).drop (p * c.S)) ↔ blankS (seg c.bytes (b * c.N + p * c.S) c.S) ∧ blk255 ((c.row b).drop ((p + 1) * c.S)) := by
  obtain ⟨e1, e2, e3⟩ := h.page_end hb hp
  have hs : (c.row b).drop (p * c.S) = seg c.bytes (b * c.N + p * c.S) c.S ++ (c.row b).drop ((p + 1) * c.S) := by
    have h1 : seg c.bytes (b * c.N + p * c.S) c.S = ((c.row b).drop (p * c.S)).take c.S := by
      unfold seg Chp.row
      rw [List.drop_take, List.take_take, List.drop_drop]
      rw [Nat.min_eq_left (by omega)]
    have h2 : (c.row b).drop ((p + 1) * c.S) = ((c.row b).drop (p * c.S)).drop c.S := by
      rw [List.drop_drop, Nat.succ_mul]
    rw [h1, h2, List.take_append_drop]
  rw [hs]
  unfold blk255 blankS
  constructor
  · intro h1
    exact ⟨fun x hx => h1 x (List.mem_append_left _ hx), fun x hx => h1 x (List.mem_append_right _ hx)⟩
  · intro h1 x hx
    rcases List.mem_append.1 hx with hx | hx
    · exact h1.1 x hx
    · exact h1.2 x hx
theorem page_last {c : Chp} (h : ChOk c) {b : Nat} (hb : b < c.B) : blk255 ((c.row b).drop (c.P * c.S)) := by
  have : (c.row b).drop (c.P * c.S) = [] := List.drop_eq_nil_of_le (by rw [h.row_len hb]; exact Nat.le_refl _)
  rw [this]
  intro x hx
  simp at hx

set_option maxRecDepth 100000 in
set_option maxHeartbeats 2000000 in
theorem rprogram_any {w : World} {F : Nat → Prop} {r : Nat} {L : RLay} {c : Chp} (h : RCx w F r L c) (hmk : ∀ x ∈ c.hits, x.mask.length ≤ 140737488355328) (b p : Int) (A : Option Addr) (n d : Nat) (xs : List UInt8) (hn : xs.length = n) (hr : RV w A (bv xs)) (hoff : ∀ ad, A = some ad → 0 < n → ¬ F ad.block) :
    Calls Try.prog 29 #[.pointer (some ⟨r, 0, none⟩), .int .i64 b, .int .i64 p, .slice A n d] w (RDoneEnd w F r (programS c b p xs)) := by
  obtain ⟨c0, c1, c2, c3, c4, c5, c6, c7, c8, c9⟩ := h.cells
  obtain ⟨R, hR⟩ : ∃ R, programS c b p xs = R := ⟨_, rfl⟩
  rw [hR]
  have hdef : programS c b p xs = if c.dead then (c, 10) else if ¬ thereS c b p ∨ xs.length ≠ c.S then (c, 2) else if c.bad[b.toNat]? = some true then (c, 9) else if ¬ blk255 ((c.row b.toNat).drop (p.toNat * c.S)) then (c, 8) else doneS c b.toNat (b.toNat * c.N + p.toNat * c.S) xs := rfl
  rw [hR] at hdef
  by_cases hd : c.dead = true
  · rw [if_pos hd] at hdef
    rw [hd] at c8
    have HH := Lib.hid h
    clear c0 c1 c2 c3 c4 c5 c6 c7 c9 h hr hn hoff
    go_enter Try.func29, Try.ntmps29
    go_wp2_with fail
    go_ret
    rw [hdef]
    exact ⟨rfl, ⟨L, HH.out⟩, Tch.refl _ _⟩
  · rw [if_neg hd] at hdef
    have hd' : c.dead = false := by simpa using hd
    rw [hd'] at c8
    have HT := there_any h b p
    by_cases ht : thereS c b p
    · rw [decide_eq_true ht] at HT
      have HT := Lib.hid HT
      by_cases hlen : n = c.S
      · rw [if_neg (by rw [hn]; rintro (h | h); exact h ht; exact h hlen)] at hdef
        have ht' := ht
        unfold thereS at ht'
        obtain ⟨q, rfl⟩ : ∃ q : Nat, b = (q : Int) := ⟨b.toNat, by omega⟩
        obtain ⟨t, rfl⟩ : ∃ t : Nat, p = (t : Int) := ⟨p.toNat, by omega⟩
        simp only [Int.toNat_natCast] at hdef
        have hqB : q < c.B := by omega
        have htP : t < c.P := by omega
        obtain ⟨xb, hxb, kb⟩ := h.badAt (b := q) hqB
        have hbB : (q : Int) < (c.B : Int) := by omega
        have t1 : ((n : Int) != (c.S : Int)) = false := by rw [hlen]; simp
        rw [hxb] at hdef
        cases xb with
        | true =>
          rw [if_pos rfl] at hdef
          have HH := Lib.hid h
          clear c0 c1 c3 c4 c6 c7 c9 h hr hn hoff ht ht' hxb hlen
          generalize c.S = S at *
          generalize c.B = B at *
          go_enter Try.func29, Try.ntmps29
          go_wp2_with fail
          refine HT.out.mono ?_
          rintro e w1 ⟨rfl, rfl⟩
          go_wp2_with fail
          go_ret
          rw [hdef]
          exact ⟨rfl, ⟨L, HH.out⟩, Tch.refl _ _⟩
        | false =>
          rw [if_neg (by simp)] at hdef
          have hok := h.ok
          obtain ⟨e1, e2, e3⟩ := hok.page_end (b := q) (p := t) hqB htP
          have hS2 := hok.s2
          have hP2 := hok.p2
          have HPG := Lib.hid (show ∀ w', Below w.heap.size w w' → ∀ j, j < c.P → _ from fun w' hb' j hj => rpage_any (h.below hb') (b := q) (p := j) hqB hj)
          have HAT := Lib.hid (show ∀ w', Below w.heap.size w w' → _ from fun w' hb' => at_any (h.below hb') (b := q) (p := t) hqB htP)
          have HD := Lib.hid (show ∀ w', Below w.heap.size w w' → _ from fun w' hb' => rdone_any (cap := d) (h.below hb') (b := q) (at_ := q * c.N + t * c.S) (n := n) hqB (by rw [hlen, ← e2, ← hok.len]; exact e3) (by omega) hmk xs hn A (hr.below hb') hoff)
          have HC1 := Lib.hid (show ∀ w', Below w.heap.size w w' → w'.cell? ⟨r, 1, none⟩ = some (.int .i64 (c.P : Int)) from fun w' hb' => (h.below hb').cells.2.1)
          have HST := Lib.hid (show ∀ j, j < c.P → _ from fun j hj => page_step hok hqB hj)
          have HSL := Lib.hid (show ∀ j, j < c.P → (seg c.bytes (q * c.N + j * c.S) c.S).length = c.S from fun j hj => by
            obtain ⟨k1, k2, k3⟩ := hok.page_end (b := q) (p := j) hqB hj
            exact seg_len (by rw [← k2]; exact k3))
          have HLA := Lib.hid (page_last hok hqB)
          have HR := Lib.hid (And.intro hdef h)
          clear c0 c1 c3 c4 c6 c7 c9 h hr hn hoff ht ht' hxb hlen hdef hok e1 e2 e3
          go_enter Try.func29, Try.ntmps29
          go_wp2_with fail
          refine HT.out.mono ?_
          rintro e w1 ⟨rfl, rfl⟩
          go_wp2_with fail
          go_loopg [9] (c.P - t) (fun k i wr => ∃ j : Nat, j + k = c.P ∧ t ≤ j ∧ i = .int .i64 j ∧ Below w1.heap.size w1 wr ∧ (blk255 ((c.row q).drop (t * c.S)) ↔ blk255 ((c.row q).drop (j * c.S))))
          case atStart => exact ⟨t, by omega, Nat.le_refl _, rfl, Below.refl _ _, Iff.rfl⟩
          case round =>
            obtain ⟨j, hj, htj, rfl, hbw, hiff⟩ := hrel
            have HX := Lib.hid (And.intro hj (And.intro htj (And.intro hbw hiff)))
            have c1 := HC1.out wr hbw
            clear hj htj hbw hiff
            by_cases hlt : j < c.P
            · have hltI : (j : Int) < (c.P : Int) := by omega
              have hjw : IntKind.i64.wrap ((j : Int) + 1) = (j : Int) + 1 := IntWalk.i64_in _ (by omega)
              have HPJ := Lib.hid (HPG.out wr HX.out.2.2.1 j hlt)
              have hsl := HSL.out j hlt
              obtain ⟨bl, hbl⟩ : ∃ bl, decide (blankS (seg c.bytes (q * c.N + j * c.S) c.S)) = bl := ⟨_, rfl⟩
              have HBL := Lib.hid (And.intro hsl hbl)
              clear hsl hbl
              cases bl with
              | true =>
                have hnx : blk255 ((c.row q).drop (t * c.S)) ↔ blk255 ((c.row q).drop ((j + 1) * c.S)) := HX.out.2.2.2.trans ((HST.out j hlt).trans ⟨fun h => h.2, fun h => ⟨of_decide_eq_true HBL.out.2, h⟩⟩)
                have HNX := Lib.hid hnx
                clear hnx
                go_wp2_with fail
                refine HPJ.out.mono ?_
                rintro e w2 ⟨v, rfl, ho, hb2⟩
                obtain ⟨A2, cp, rfl, hrv, hle, hmx, -⟩ := ho.slice
                have hbk := dBlank_any A2 cp _ w2 hrv (by rw [HBL.out.1]; omega)
                rw [HBL.out.1, HBL.out.2] at hbk
                have HBK := Lib.hid hbk
                have H2 := Lib.hid hb2
                rw [HBL.out.1]
                clear ho hrv hle hmx hbk hb2
                go_wp2_with fail
                refine HBK.out.mono ?_
                rintro e w3 ⟨rfl, hw⟩
                obtain rfl := hw.symm
                clear hw
                go_wp2_with fail
                go_roundg (c.P - (j + 1))
                case measure => have := HX.out.1; omega
                case rel => exact ⟨j + 1, by have := HX.out.1; omega, by have := HX.out.2.1; omega, by go_num, below_then HX.out.2.2.1 HX.out.2.2.1.size H2.out, HNX.out⟩
              | false =>
                have hrr : R = (c, 8) := by
                  rw [HR.out.1, if_pos]
                  intro hx
                  have := ((HST.out j hlt).1 (HX.out.2.2.2.1 hx)).1
                  rw [decide_eq_true this] at HBL
                  cases HBL.out.2
                have HRR := Lib.hid hrr
                clear hrr
                go_wp2_with fail
                refine HPJ.out.mono ?_
                rintro e w2 ⟨v, rfl, ho, hb2⟩
                obtain ⟨A2, cp, rfl, hrv, hle, hmx, -⟩ := ho.slice
                have hbk := dBlank_any A2 cp _ w2 hrv (by rw [HBL.out.1]; omega)
                rw [HBL.out.1, HBL.out.2] at hbk
                have HBK := Lib.hid hbk
                have H2 := Lib.hid hb2
                rw [HBL.out.1]
                clear ho hrv hle hmx hbk hb2
                go_wp2_with fail
                refine HBK.out.mono ?_
                rintro e w3 ⟨rfl, hw⟩
                obtain rfl := hw.symm
                clear hw
                go_wp2_with fail
                go_ret
                rw [HRR.out]
                have hbd := below_then HX.out.2.2.1 HX.out.2.2.1.size H2.out
                exact ⟨rfl, ⟨L, HR.out.2.below hbd⟩, Tch.of_below hbd⟩
            · obtain rfl : j = c.P := by have := HX.out.1; omega
              have hge : ¬ (c.P : Int) < (c.P : Int) := by omega
              have hrr : R = doneS c q (q * c.N + t * c.S) xs := by
                rw [HR.out.1, if_neg (fun h => h (HX.out.2.2.2.2 HLA.out))]
              have HRR := Lib.hid hrr
              have HAJ := Lib.hid (HAT.out wr HX.out.2.2.1)
              clear hrr
              go_wp2_with fail
              refine HAJ.out.mono ?_
              rintro e w2 ⟨rfl, hd2⟩
              have hb2 := below_then HX.out.2.2.1 HX.out.2.2.1.size (hd2.below _)
              have HDJ := Lib.hid (HD.out w2 hb2)
              have H2 := Lib.hid hb2
              clear hd2 hb2
              go_wp2_with fail
              refine HDJ.out.mono ?_
              rintro e w5 ⟨rfl, hp5, ht5⟩
              have H5 := Lib.hid (And.intro hp5 ht5)
              clear hp5 ht5
              go_wp2_with fail
              go_ret
              rw [HRR.out]
              exact ⟨rfl, H5.out.1, (Tch.of_below H2.out).then H5.out.2 (fun _ _ h => h)⟩
      · rw [if_pos (.inr (by rw [hn]; exact hlen))] at hdef
        have t1 : ((n : Int) != (c.S : Int)) = true := by simp; omega
        have HH := Lib.hid h
        clear c0 c1 c3 c4 c5 c6 c7 c9 h hr hn hoff ht hlen
        go_enter Try.func29, Try.ntmps29
        go_wp2_with fail
        refine HT.out.mono ?_
        rintro e w1 ⟨rfl, rfl⟩
        go_wp2_with fail
        go_ret
        rw [hdef]
        exact ⟨rfl, ⟨L, HH.out⟩, Tch.refl _ _⟩
    · rw [decide_eq_false ht] at HT
      rw [if_pos (.inl ht)] at hdef
      have HT := Lib.hid HT
      have HH := Lib.hid h
      clear c0 c1 c2 c3 c4 c5 c6 c7 c9 h hr hn hoff ht
      go_enter Try.func29, Try.ntmps29
      go_wp2_with fail
      refine HT.out.mono ?_
      rintro e w1 ⟨rfl, rfl⟩
      go_wp2_with fail
      go_ret
      rw [hdef]
      exact ⟨rfl, ⟨L, HH.out⟩, Tch.refl _ _⟩
end Go.Proofs.Ytlcdabmclcfagaa
