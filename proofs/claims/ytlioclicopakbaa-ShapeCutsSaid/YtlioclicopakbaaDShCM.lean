import Derived.Test.YtlioclicopakbaaDShSM
import Derived.Test.YtlioclicopakbaaSealDBM
import Derived.Test.YtlioclicopakbaaKeyEM
import Derived.Test.YtlioclicopakbaaClsM
import Derived.Test.YtlioclicopakbaaShFM
set_option linter.unusedVariables false
set_option linter.unusedSimpArgs false
/- Layer 16, the document's cut: contract. -/
namespace Go.Proofs.Ytlioclicopakbaa
open Go.RowKit

set_option maxRecDepth 100000 in
set_option maxHeartbeats 8000000 in
theorem dCut_any (w : World) (s : Int) (B : Option Addr) (e : Nat) (A : Option Addr) (n d : Nat) (its : List (Ky × Nat)) (least : Nat) (h : KeysIn w A n (its.map (·.1))) (hl : RV w B (iv (its.map (·.2)))) (hn : n * 40 ≤ 140737488351232) (hne : n ≤ e) (he : e ≤ maxLen) (hnd : n ≤ d) (hd : d ≤ maxLen) :
    Calls Try.prog 30 #[.int .i64 s, .slice B n e, .slice A n d, .int .i64 (least : Int)] w (IntsEnd w (shCut s its least)) := by
  obtain ⟨r, hr⟩ : ∃ r, shCut s its least = r := ⟨_, rfl⟩
  rw [hr]
  unfold shCut at hr
  by_cases hs : 128 ≤ s ∧ s ≤ 256
  · rw [if_neg (fun h => h hs)] at hr
    have h2 : (bodyS s : Int) - 1 = ((s.toNat - 6 : Nat) : Int) := by rw [show bodyS s = s.toNat - 5 from if_pos hs]; omega
    have hR : s.toNat - 6 ≤ 250 := by omega
    obtain ⟨b, hb⟩ : ∃ b, bodyS s = b := ⟨_, rfl⟩
    have HB := fun w => dBody_any s w
    rw [hb] at HB h2
    have HB := Lib.hid HB
    have HS := Lib.hid (fun w => dSize_yes s w hs.1 hs.2)
    have hb5 : b = (s.toNat - 6) + 1 := by omega
    clear hb h2
    generalize s.toNat - 6 = R at *
    have HR := Lib.hid hr
    clear hr hs
    subst hb5
    have hlen : its.length = n := by have := h.1; simpa using this
    have H := Lib.hid (And.intro h (And.intro hlen hl))
    clear h hlen hl
    unfold maxLen at he hd
    obtain ⟨ji, jz, hji, hjz, hj1, hj2, hj3⟩ := int_info'
    go_enter Try.func30, Try.ntmps30
    go_wp2_with (go_at_call 45; refine (HS.out _).mono ?_; rintro e w1 ⟨rfl, rfl⟩)
    go_loopg [10] n (fun k i wr => ∃ j : Nat, j + k = n ∧ i = .int .i64 j ∧ Below w.heap.size w wr ∧ ∀ i k, i < j → (its.map (·.1))[i]? = some k → kStep (its.map (·.1)) i k)
    case atStart => exact ⟨0, by omega, rfl, Below.refl _ _, fun i f h => by omega⟩
    case round =>
      obtain ⟨j, hj, rfl, hb, hall⟩ := hrel
      have HX := Lib.hid (And.intro hj (And.intro hb hall))
      clear hj hb hall
      by_cases hlt : j < n
      · obtain ⟨k, hk⟩ : ∃ k, (its.map (·.1))[j]? = some k := ⟨_, List.getElem?_eq_getElem (by have := H.out.2.1; rw [List.length_map]; omega)⟩
        obtain ⟨okk, ad, hA, hblk, x0, x1, x2, x3⟩ := KeysIn.at_ H.out.1 hk
        subst hA
        have HV := Lib.hid (And.intro hk okk)
        have HMK := Lib.hid (fun w => dMayK_any w k okk)
        have HXX := Lib.hid (And.intro x0 (And.intro x1 (And.intro x2 x3)))
        clear hk okk x0 x1 x2 x3
        have hjn : (j : Int) < (n : Int) := by omega
        obtain ⟨fi, fa, fs, fc⟩ := k
        unfold Ky.val at HMK
        dsimp only at HMK HXX
        have old : ∀ (p : InC (fun w' => Below w.heap.size w w')) {q : Addr} {u : Value}, w.cell? q = some u → q.block < w.heap.size → p.w.cell? q = some u := fun p _ _ hu hp => (World.cell?_of_block (p.h.block _ hp)).trans hu
        have HO := Lib.hid @old
        clear old
        by_cases hmk : mayK ⟨fi, fa, fs, fc⟩
        · rw [decide_eq_true hmk] at HMK
          rcases Nat.eq_zero_or_pos j with hj0 | hj0
          · have q3 : decide (0 < (j : Int)) = false := decide_eq_false (by omega)
            have q4 : decide (0 < j) = false := decide_eq_false (by omega)
            have hst : kStep (its.map (·.1)) j ⟨fi, fa, fs, fc⟩ := ⟨hmk, fun p h => by omega⟩
            have HJ := Lib.hid hj0
            clear hmk hj0
            have hall : ∀ i k, i < j + 1 → (its.map (·.1))[i]? = some k → kStep (its.map (·.1)) i k := by
              intro i k hi hk
              rcases Nat.lt_or_ge i j with h | h
              · exact HX.out.2.2 i k h hk
              · obtain rfl : i = j := by omega
                rw [HV.out.1] at hk
                cases hk
                exact hst
            have HALL := Lib.hid hall
            clear hall hst
            go_wp2_with fail
            have m0 : ∀ p : InC (fun w' => Below w.heap.size w w'), p.w.cell? (ad.add (j * 4)) = some (.int .i64 fi) := fun p => HO.out p HXX.out.1 hblk
            have m1 : ∀ p : InC (fun w' => Below w.heap.size w w'), p.w.cell? ⟨(ad.add (j * 4)).block, (ad.add (j * 4)).off + 1, none⟩ = some (.int .u8 (fa.toNat : Int)) := fun p => HO.out p HXX.out.2.1 hblk
            have m2 : ∀ p : InC (fun w' => Below w.heap.size w w'), p.w.cell? ⟨(ad.add (j * 4)).block, (ad.add (j * 4)).off + 2, none⟩ = some (.string fs) := fun p => HO.out p HXX.out.2.2.1 hblk
            have m3 : ∀ p : InC (fun w' => Below w.heap.size w w'), p.w.cell? ⟨(ad.add (j * 4)).block, (ad.add (j * 4)).off + 3, none⟩ = some (.int .i64 fc) := fun p => HO.out p HXX.out.2.2.2 hblk
            have hinh : Nonempty (InC (fun w' => Below w.heap.size w w')) := ⟨⟨_, HX.out.2.1⟩⟩
            refine wp_region_class (fun w' => Below w.heap.size w w') (by kernel_rfl) (by kernel_rfl) HX.out.2.1.drew ?_
            repeat (go_big_quiet_step ((first | (go_at_call 21; rename_i p; exact class_call (HMK.out _) (fun _ hb => below_then p.h p.h.size hb)))))
            refine wpQuiet_nil ?_
            rintro _ ⟨p4, rfl⟩
            clear hinh m0 m1 m2 m3
            have HM := Lib.hid p4.h
            generalize p4.w = w4 at HM ⊢
            go_wp2_with fail
            go_roundg (n - (j + 1))
            case measure => have := HX.out.1; omega
            case rel => exact ⟨j + 1, by have := HX.out.1; omega, by go_num, HM.out, HALL.out⟩
          · have q3 : decide (0 < (j : Int)) = true := decide_eq_true (by omega)
            obtain ⟨q, hq⟩ : ∃ q, j = q + 1 := ⟨j - 1, by omega⟩
            have hwm : IntKind.i64.wrap ((j : Int) - 1) = (q : Int) := by rw [hq]; exact (IntWalk.i64_in _ (by omega)).trans (by omega)
            have hmn : (q : Int) < (n : Int) := by omega
            obtain ⟨x, hx⟩ : ∃ x, (its.map (·.1))[q]? = some x := ⟨_, List.getElem?_eq_getElem (by have := H.out.2.1; rw [List.length_map]; omega)⟩
            obtain ⟨okx, ad', hA', hblk', x0, x1, x2, x3⟩ := KeysIn.at_ H.out.1 hx
            injection hA' with hA'
            subst hA'
            have HX2 := Lib.hid (And.intro hx (And.intro x0 (And.intro x1 (And.intro x2 (And.intro x3 hq)))))
            clear x0 x1 x2 x3 hx hq
            have HKB := Lib.hid (fun w => dBefore_any w x ⟨fi, fa, fs, fc⟩ okx HV.out.2)
            obtain ⟨xi, xa, xs, xc⟩ := x
            dsimp only at HX2
            unfold Ky.val at HKB
            dsimp only at HKB
            have m0 : ∀ p : InC (fun w' => Below w.heap.size w w'), p.w.cell? (ad.add (j * 4)) = some (.int .i64 fi) := fun p => HO.out p HXX.out.1 hblk
            have m1 : ∀ p : InC (fun w' => Below w.heap.size w w'), p.w.cell? ⟨(ad.add (j * 4)).block, (ad.add (j * 4)).off + 1, none⟩ = some (.int .u8 (fa.toNat : Int)) := fun p => HO.out p HXX.out.2.1 hblk
            have m2 : ∀ p : InC (fun w' => Below w.heap.size w w'), p.w.cell? ⟨(ad.add (j * 4)).block, (ad.add (j * 4)).off + 2, none⟩ = some (.string fs) := fun p => HO.out p HXX.out.2.2.1 hblk
            have m3 : ∀ p : InC (fun w' => Below w.heap.size w w'), p.w.cell? ⟨(ad.add (j * 4)).block, (ad.add (j * 4)).off + 3, none⟩ = some (.int .i64 fc) := fun p => HO.out p HXX.out.2.2.2 hblk
            have n0 : ∀ p : InC (fun w' => Below w.heap.size w w'), p.w.cell? (ad.add (q * 4)) = some (.int .i64 xi) := fun p => HO.out p HX2.out.2.1 hblk'
            have n1 : ∀ p : InC (fun w' => Below w.heap.size w w'), p.w.cell? ⟨(ad.add (q * 4)).block, (ad.add (q * 4)).off + 1, none⟩ = some (.int .u8 (xa.toNat : Int)) := fun p => HO.out p HX2.out.2.2.1 hblk'
            have n2 : ∀ p : InC (fun w' => Below w.heap.size w w'), p.w.cell? ⟨(ad.add (q * 4)).block, (ad.add (q * 4)).off + 2, none⟩ = some (.string xs) := fun p => HO.out p HX2.out.2.2.2.1 hblk'
            have n3 : ∀ p : InC (fun w' => Below w.heap.size w w'), p.w.cell? ⟨(ad.add (q * 4)).block, (ad.add (q * 4)).off + 3, none⟩ = some (.int .i64 xc) := fun p => HO.out p HX2.out.2.2.2.2.1 hblk'
            have HNN := Lib.hid (And.intro m0 (And.intro m1 (And.intro m2 (And.intro m3 (And.intro n0 (And.intro n1 (And.intro n2 n3)))))))
            clear m0 m1 m2 m3 n0 n1 n2 n3
            by_cases hlt' : keyLt ⟨xi, xa, xs, xc⟩ ⟨fi, fa, fs, fc⟩
            · have hst : kStep (its.map (·.1)) j ⟨fi, fa, fs, fc⟩ := ⟨hmk, fun p _ hp => by
                have hx := HX2.out.1
                rw [HX2.out.2.2.2.2.2, Nat.add_sub_cancel, hx] at hp
                cases hp
                exact hlt'⟩
              rw [decide_eq_true hlt'] at HKB
              clear hmk hlt'
              have hall : ∀ i k, i < j + 1 → (its.map (·.1))[i]? = some k → kStep (its.map (·.1)) i k := by
                intro i k hi hk
                rcases Nat.lt_or_ge i j with h | h
                · exact HX.out.2.2 i k h hk
                · obtain rfl : i = j := by omega
                  rw [HV.out.1] at hk
                  cases hk
                  exact hst
              have HALL := Lib.hid hall
              clear hall hst
              go_wp2_with fail
              obtain ⟨m0, m1, m2, m3, n0, n1, n2, n3⟩ := HNN.out
              have hinh : Nonempty (InC (fun w' => Below w.heap.size w w')) := ⟨⟨_, HX.out.2.1⟩⟩
              refine wp_region_class (fun w' => Below w.heap.size w w') (by kernel_rfl) (by kernel_rfl) HX.out.2.1.drew ?_
              repeat (go_big_quiet_step ((first | (go_at_call 21; rename_i p; exact class_call (HMK.out _) (fun _ hb => below_then p.h p.h.size hb)) | (go_at_call 46; rename_i p; exact class_call (HKB.out _) (fun _ hb => below_then p.h p.h.size hb)))))
              refine wpQuiet_nil ?_
              rintro _ ⟨p4, rfl⟩
              clear hinh m0 m1 m2 m3 n0 n1 n2 n3
              have HM := Lib.hid p4.h
              generalize p4.w = w4 at HM ⊢
              go_wp2_with fail
              go_roundg (n - (j + 1))
              case measure => have := HX.out.1; omega
              case rel => exact ⟨j + 1, by have := HX.out.1; omega, by go_num, HM.out, HALL.out⟩
            · rw [decide_eq_false hlt'] at HKB
              have hrr : r = ([], 2) := by
                rw [← HR.out, if_pos (fun hg => hlt' (((goodKs_iff _).1 hg j _ HV.out.1).2 _ hj0 (by rw [HX2.out.2.2.2.2.2, Nat.add_sub_cancel]; exact HX2.out.1)))]
              have HRR := Lib.hid hrr
              clear hrr hmk hlt'
              go_wp2_with fail
              obtain ⟨m0, m1, m2, m3, n0, n1, n2, n3⟩ := HNN.out
              have hinh : Nonempty (InC (fun w' => Below w.heap.size w w')) := ⟨⟨_, HX.out.2.1⟩⟩
              refine wp_region_class (fun w' => Below w.heap.size w w') (by kernel_rfl) (by kernel_rfl) HX.out.2.1.drew ?_
              repeat (go_big_quiet_step ((first | (go_at_call 21; rename_i p; exact class_call (HMK.out _) (fun _ hb => below_then p.h p.h.size hb)) | (go_at_call 46; rename_i p; exact class_call (HKB.out _) (fun _ hb => below_then p.h p.h.size hb)))))
              refine wpQuiet_nil ?_
              rintro _ ⟨p4, rfl⟩
              clear hinh m0 m1 m2 m3 n0 n1 n2 n3
              have HM := Lib.hid p4.h
              generalize p4.w = w4 at HM ⊢
              go_wp2_with fail
              go_ret2
              rw [HRR.out]
              exact ⟨_, rfl, OwnI.nil _ _ _, HM.out⟩
        · rw [decide_eq_false hmk] at HMK
          have hrr : r = ([], 2) := by
            rw [← HR.out, if_pos (fun hg => hmk ((goodKs_iff _).1 hg j _ HV.out.1).1)]
          have HRR := Lib.hid hrr
          clear hrr hmk
          go_wp2_with fail
          have m0 : ∀ p : InC (fun w' => Below w.heap.size w w'), p.w.cell? (ad.add (j * 4)) = some (.int .i64 fi) := fun p => HO.out p HXX.out.1 hblk
          have m1 : ∀ p : InC (fun w' => Below w.heap.size w w'), p.w.cell? ⟨(ad.add (j * 4)).block, (ad.add (j * 4)).off + 1, none⟩ = some (.int .u8 (fa.toNat : Int)) := fun p => HO.out p HXX.out.2.1 hblk
          have m2 : ∀ p : InC (fun w' => Below w.heap.size w w'), p.w.cell? ⟨(ad.add (j * 4)).block, (ad.add (j * 4)).off + 2, none⟩ = some (.string fs) := fun p => HO.out p HXX.out.2.2.1 hblk
          have m3 : ∀ p : InC (fun w' => Below w.heap.size w w'), p.w.cell? ⟨(ad.add (j * 4)).block, (ad.add (j * 4)).off + 3, none⟩ = some (.int .i64 fc) := fun p => HO.out p HXX.out.2.2.2 hblk
          have hinh : Nonempty (InC (fun w' => Below w.heap.size w w')) := ⟨⟨_, HX.out.2.1⟩⟩
          refine wp_region_class (fun w' => Below w.heap.size w w') (by kernel_rfl) (by kernel_rfl) HX.out.2.1.drew ?_
          repeat (go_big_quiet_step ((first | (go_at_call 21; rename_i p; exact class_call (HMK.out _) (fun _ hb => below_then p.h p.h.size hb)))))
          refine wpQuiet_nil ?_
          rintro _ ⟨p4, rfl⟩
          clear hinh m0 m1 m2 m3
          have HM := Lib.hid p4.h
          generalize p4.w = w4 at HM ⊢
          go_wp2_with fail
          go_ret2
          rw [HRR.out]
          exact ⟨_, rfl, OwnI.nil _ _ _, HM.out⟩
      · obtain rfl : j = n := by have := HX.out.1; omega
        have hge : ¬ (j : Int) < (j : Int) := by omega
        have hg : goodKs (its.map (·.1)) := (goodKs_iff _).2 fun i k hk => HX.out.2.2 i k (by have := (List.getElem?_eq_some_iff.1 hk).1; have := H.out.2.1; rw [List.length_map] at *; omega) hk
        have hr1 := HR.out
        rw [if_neg (fun h => h hg)] at hr1
        have HR1 := Lib.hid hr1
        have HB0 := Lib.hid HX.out.2.1
        clear hr1 hg HX
        go_wp2_with (go_at_call 47; refine (HB.out _).mono ?_; rintro e w1 ⟨rfl, rfl⟩)
        go_loopg [12] j (fun k i wr2 => ∃ q : Nat, q + k = j ∧ i = .int .i64 q ∧ wr2 = wr ∧ ∀ i c, i < q → (its.map (·.2))[i]? = some c → c ≤ R)
        case atStart => exact ⟨0, by omega, rfl, rfl, fun i f h => by omega⟩
        case round =>
          obtain ⟨q, hq, rfl, rfl, hall⟩ := hrel
          have HX := Lib.hid (And.intro hq hall)
          clear hq hall
          by_cases hlt : q < j
          · obtain ⟨c, hc⟩ : ∃ c, (its.map (·.2))[q]? = some c := ⟨_, List.getElem?_eq_getElem (by have := H.out.2.1; rw [List.length_map]; omega)⟩
            obtain ⟨adB, hB, hcB⟩ := H.out.2.2 (by rw [iv_length, List.length_map]; have := H.out.2.1; omega)
            have y0' := hcB q (.int .i64 (c : Int)) (by unfold iv; rw [List.getElem?_map, hc]; rfl)
            have y0 := (World.cell?_of_block (HB0.out.block _ (World.block_lt_of_cell? w _ y0'))).trans y0'
            subst hB
            have HC := Lib.hid hc
            have hqj : (q : Int) < (j : Int) := by omega
            clear hc hcB y0'
            by_cases hcR : c ≤ R
            · have t1 : decide ((R : Int) < (c : Int)) = false := decide_eq_false (by omega)
              have t2 : decide (R < c) = false := decide_eq_false (by omega)
              have hall : ∀ i k, i < q + 1 → (its.map (·.2))[i]? = some k → k ≤ R := by
                intro i k hi hk
                rcases Nat.lt_or_ge i q with h | h
                · exact HX.out.2 i k h hk
                · obtain rfl : i = q := by omega
                  rw [HC.out] at hk
                  cases hk
                  exact hcR
              have HALL := Lib.hid hall
              clear hall
              go_wp2_with fail
              go_roundg (j - (q + 1))
              case measure => have := HX.out.1; omega
              case rel => exact ⟨q + 1, by have := HX.out.1; omega, by go_num, rfl, HALL.out⟩
            · have t1 : decide ((R : Int) < (c : Int)) = true := decide_eq_true (by omega)
              have t2 : decide (R < c) = true := decide_eq_true (by omega)
              have hnone : r = ([], 3) := by
                have := HR1.out
                cases hsh : shGo R least its 0 R with
                | none => rw [hsh] at this; exact this.symm
                | some t =>
                  have hc := HC.out
                  rw [List.getElem?_map] at hc
                  obtain ⟨it, hit, he⟩ := Option.map_eq_some_iff.1 hc
                  have := shGo_le _ _ _ _ hsh it (List.mem_of_getElem? hit)
                  rw [he] at this
                  exact absurd this hcR
              have HF := Lib.hid hnone
              clear hnone
              go_wp2_with fail
              go_ret2
              rw [HF.out]
              exact ⟨_, rfl, OwnI.nil _ _ _, HB0.out⟩
          · obtain rfl : q = j := by have := HX.out.1; omega
            have hge2 : ¬ (q : Int) < (q : Int) := by omega
            have hall : ∀ it ∈ its, it.2 ≤ R := by
              intro it hit
              obtain ⟨i, hi⟩ := List.getElem?_of_mem hit
              exact HX.out.2 i it.2 (by have := (List.getElem?_eq_some_iff.1 hi).1; have := H.out.2.1; omega) (by rw [List.getElem?_map, hi]; rfl)
            obtain ⟨t, ht⟩ := shGo_some (R := R) (least := least) its 0 R hall
            have hrt : r = (t, 0) := by have := HR1.out; rw [ht] at this; exact this.symm
            have HT := Lib.hid (And.intro hall (And.intro ht hrt))
            clear hall ht hrt HX
            go_wp2_with fail
            go_loopg [1, 2, 13] q (fun k lv kv v wr => ∃ (off N d' e' : Nat) (A' B' : Option Addr) (acc : List Nat), off + N = q ∧ N ≤ k ∧ lv = .slice B' N e' ∧ kv = .slice A' N d' ∧ N ≤ e' ∧ e' ≤ 9223372036854775807 ∧ N ≤ d' ∧ d' ≤ 9223372036854775807 ∧
              KeysIn w A' N ((its.drop off).map (·.1)) ∧ RV w B' (iv ((its.drop off).map (·.2))) ∧ OwnI 3 wr w.heap.size v acc ∧ Below w.heap.size w wr ∧ (shGo R least (its.drop off) 0 R).map (acc ++ ·) = some t ∧ acc.length ≤ off)
            case atStart => exact ⟨0, q, d, e, A, B, [], by omega, Nat.le_refl _, rfl, rfl, hne, he, hnd, hd, by rw [List.drop_zero]; exact H.out.1, by rw [List.drop_zero]; exact H.out.2.2, OwnI.nil _ _ _, HB0.out, by rw [List.drop_zero, HT.out.2.1]; rfl, by simp⟩
            case round =>
              obtain ⟨off, N, d', e', A', B', acc, hoff, hNk, rfl, rfl, hNe, he', hNd, hd', hk, hlv, ho, hb, heq, hal⟩ := hrel
              have HX := Lib.hid (show off + N = q ∧ KeysIn w A' N ((its.drop off).map (·.1)) ∧ RV w B' (iv ((its.drop off).map (·.2))) ∧ OwnI 3 wr w.heap.size u13 acc ∧ Below w.heap.size w wr ∧ (shGo R least (its.drop off) 0 R).map (acc ++ ·) = some t from ⟨hoff, hk, hlv, ho, hb, heq⟩)
              have hal2 : acc.length ≤ q := by omega
              clear hk hlv ho hb heq
              by_cases hN : 0 < N
              · obtain ⟨⟨k, c⟩, hk⟩ : ∃ x, its[off]? = some x := ⟨_, List.getElem?_eq_getElem (by have := H.out.2.1; omega)⟩
                have hkd : its.drop off = (k, c) :: its.drop (off + 1) := by
                  obtain ⟨h2, h3⟩ := List.getElem?_eq_some_iff.1 hk
                  rw [List.drop_eq_getElem_cons h2, h3]
                have hcR := HT.out.1 _ (List.mem_of_getElem? hk)
                have hfst := shGo_fst (R := R) (least := least) (its.drop off) 0 R (fun it hi => HT.out.1 it (List.mem_of_mem_drop hi)) (by decide) (fun _ => ⟨rfl, by rw [hkd]; simp⟩)
                have hbd := fstGo_bd (least := least) (its.drop off) 0 R
                have hps : 1 ≤ fstGo least (its.drop off) 0 R := by rw [hkd]; exact fstGo_pos hcR
                rw [List.length_drop] at hbd
                have hN1 : ((its.drop off).map (·.1)).length = N := HX.out.2.1.1
                rw [List.length_map, List.length_drop] at hN1
                obtain ⟨ad, rfl⟩ : ∃ ad, A' = some ad := by
                  obtain ⟨_, ad, _, hA, _⟩ := HX.out.2.1.2 0 k (by rw [hkd]; rfl)
                  exact ⟨ad, hA⟩
                obtain ⟨adB, hB, _⟩ := HX.out.2.2.1 (by rw [iv_length, List.length_map, List.length_drop]; omega)
                subst hB
                have HD := Lib.hid (dFirst_any wr R (some adB) (some ad) N d' e' (its.drop off) least (ListIn.below ky_len (by decide) HX.out.2.1 HX.out.2.2.2.2.1) (HX.out.2.2.1.below HX.out.2.2.2.2.1) hR (by omega))
                generalize hf : fstGo least (its.drop off) 0 R = f at *
                rw [Nat.sub_zero, List.drop_drop] at hfst
                have heq := HX.out.2.2.2.2.2
                rw [hfst, Option.map_map] at heq
                have hkn := ListIn.dropK HX.out.2.1 f d' (by omega) hNd
                rw [← List.map_drop, List.drop_drop] at hkn
                have hln := RV.cut HX.out.2.2.1 (k := f) (cap := e') (by rw [iv_length, List.length_map, List.length_drop]; omega)
                have hivd : (iv ((its.drop off).map (·.2))).drop f = iv ((its.drop (off + f)).map (·.2)) := by
                  unfold iv
                  rw [← List.map_drop, ← List.map_drop, List.drop_drop]
                rw [hivd] at hln
                have HQ := Lib.hid (And.intro heq (And.intro hkn hln))
                have hfN : f ≤ N := by omega
                have tf : ((f : Int) == 0) = false := beq_eq_false_iff_ne.2 (by omega)
                have tf1 : (f : Int) ≤ (N : Int) := by omega
                have tf2 : (N : Int) ≤ (d' : Int) := by omega
                have tf3 : (N : Int) ≤ (e' : Int) := by omega
                have hNI : (0 : Int) < (N : Int) := by omega
                clear heq hkn hln hivd hfst hbd hf hk hkd hcR
                go_wp2_with fail
                refine HD.out.mono ?_
                rintro e w2 ⟨rfl, hb2⟩
                have H2 := Lib.hid (And.intro (HX.out.2.2.2.1.below hb2) (below_then HX.out.2.2.2.2.1 HX.out.2.2.2.2.1.size hb2))
                clear hb2
                go_wp2_with (at_builtin; refine wpList_appI w2 rfl _ _ 23 rfl w.heap.size 3 ji jz Try.underlying23 hji hjz hj1 hj2 hj3 u13 acc rfl H2.out.1 f _ rfl rfl ?_ ?_ ?_)
                · omega
                · exact H2.out.2.size
                intro v3 w3 ho3 hg3
                have H3 := Lib.hid (And.intro ho3 (H2.out.2.grown hg3 H2.out.2.size (fun k e => (H2.out.1.blk e).1)))
                clear ho3 hg3
                have hacc : (acc ++ [f]).length ≤ off + f := by simp; omega
                have HA := Lib.hid hacc
                clear hacc
                by_cases hdc : d' = f <;> by_cases hec : e' = f
                all_goals
                  have hkn := HQ.out.2.1
                  have hln := HQ.out.2.2
                  first | rw [if_pos hdc] at hkn | rw [if_neg hdc] at hkn
                  first | rw [if_pos hec] at hln | rw [if_neg hec] at hln
                  have HN := Lib.hid (And.intro hkn hln)
                  clear hkn hln
                  go_wp2_with fail
                  go_roundg (N - f)
                  case measure => omega
                  case rel => exact ⟨off + f, N - f, _, _, _, _, acc ++ [f], by omega, Nat.le_refl _, by go_num, by go_num, by omega, by omega, by omega, by omega, HN.out.1, HN.out.2, H3.out.1, H3.out.2, by rw [← HQ.out.1]; congr 1; funext l; simp, HA.out⟩
              · obtain rfl : N = 0 := by omega
                have heq := HX.out.2.2.2.2.2
                rw [List.drop_of_length_le (by have := H.out.2.1; omega), shGo] at heq
                have hfin : acc = t := by simpa using heq
                have HF := Lib.hid (And.intro hfin HT.out.2.2)
                clear heq hfin
                go_wp2_with fail
                go_ret2
                rw [HF.out.2, ← HF.out.1]
                exact ⟨_, rfl, HX.out.2.2.2.1, HX.out.2.2.2.2.1⟩
  · rw [if_pos hs] at hr
    have HS := Lib.hid (fun w => dSize_no s w hs)
    have HR := Lib.hid hr.symm
    clear hs hr h hl
    go_enter Try.func30, Try.ntmps30
    go_wp2_with (go_at_call 45; refine (HS.out _).mono ?_; rintro e w1 ⟨rfl, rfl⟩)
    go_ret2
    rw [HR.out]
    exact ⟨_, rfl, OwnI.nil _ _ _, Below.refl _ _⟩
end Go.Proofs.Ytlioclicopakbaa
