import Derived.Deep.QuietTactic
import Derived.BigQuiet
import Derived.Deep.RegionLaw
import Derived.Test.YtegoeagmadhpgaaMSealD
import Derived.Test.YtegoeagmadhpgaaMSealA
import Derived.Test.YtegoeagmadhpgaaMApp
import Derived.Test.YtegoeagmadhpgaaByteM
import Derived.Test.YtegoeagmadhpgaaMBase
set_option linter.unusedVariables false
set_option linter.unusedSimpArgs false
/- Layer 2: the document's Get. -/
namespace Go.Proofs.Ytegoeagmadhpgaa
open Go.RowKit

theorem dGet_size (w : World) (A : Option Addr) (c : Nat) (xs : List UInt8) (h : ¬ isPage xs.length) (hm : xs.length ≤ maxLen) :
    Calls Try.prog 20 #[.slice A xs.length c] w (GetPageEnd w (0, [], 2)) := by
  unfold maxLen at hm
  have H := Lib.hid (show ¬ (128 ≤ (xs.length : Int) ∧ (xs.length : Int) ≤ 256) from fun hh => h ⟨by omega, by omega⟩)
  clear h
  go_enter Try.func20, Try.ntmps20
  go_wp2_with (go_at_call 40; refine (dSize_no _ _ H.out).mono ?_; rintro e w' ⟨rfl, rfl⟩)
  go_ret3
  exact ⟨_, rfl, OwnB.nil _ _ _, Below.refl _ _⟩
theorem dGet_blank (w : World) (A : Option Addr) (c : Nat) (xs : List UInt8) (hr : RV w A (bv xs)) (h1 : 128 ≤ xs.length) (h2 : xs.length ≤ 256) (hb : blankS xs) :
    Calls Try.prog 20 #[.slice A xs.length c] w (GetPageEnd w (0, [], 6)) := by
  have HB := Lib.hid (And.intro hr (decide_eq_true hb))
  clear hr hb
  go_enter Try.func20, Try.ntmps20
  go_wp2_with (first
    | (go_at_call 40; refine (dSize_yes _ _ (by omega) (by omega)).mono ?_; rintro e w' ⟨rfl, rfl⟩)
    | (go_at_call 41; refine (dBlank_any _ _ xs _ HB.out.1 (by omega)).mono ?_; rintro e w' ⟨rfl, rfl⟩; rw [HB.out.2]))
  go_ret3
  exact ⟨_, rfl, OwnB.nil _ _ _, Below.refl _ _⟩

set_option maxRecDepth 100000 in
set_option maxHeartbeats 2000000 in
theorem dGet_rest (w : World) (A : Option Addr) (c : Nat) (xs : List UInt8) (hr : RV w A (bv xs)) (hlc : xs.length ≤ c) (hc : c ≤ maxLen) (h1 : 128 ≤ xs.length) (h2 : xs.length ≤ 256) (hb : ¬ blankS xs) :
    Calls Try.prog 20 #[.slice A xs.length c] w (GetPageEnd w (getS xs)) := by
  unfold maxLen at hc
  have hget : getS xs = if (xs.getD 0 0).toNat + 256 * (xs.getD 1 0).toNat ≠ noughts (xs.drop 2) then (0, [], 7)
      else if (xs.getD 2 0).toNat < 1 ∨ 7 < (xs.getD 2 0).toNat ∨ xs.length - 5 < (xs.getD 3 0).toNat + 256 * (xs.getD 4 0).toNat ∨ ¬ blankS (xs.drop (5 + ((xs.getD 3 0).toNat + 256 * (xs.getD 4 0).toNat))) then (0, [], 5)
      else ((xs.getD 2 0).toNat, (xs.drop 5).take ((xs.getD 3 0).toNat + 256 * (xs.getD 4 0).toNat), 0) := by
    unfold getS
    rw [if_neg (by unfold isPage; omega), if_neg hb]
  obtain ⟨ad, rfl, hcells⟩ := hr (by rw [bv_length]; omega)
  have hcell : ∀ i, i < 5 → w.cell? (ad.add i) = some (.int .u8 ((xs.getD i 0).toNat : Int)) := fun i hi => hcells i _ (by
    rw [bv_get, List.getElem?_eq_getElem (by omega), List.getD_eq_getElem?_getD, List.getElem?_eq_getElem (by omega)]
    rfl)
  have c0 := hcell 0 (by omega)
  have c1 := hcell 1 (by omega)
  have c2 := hcell 2 (by omega)
  have c3 := hcell 3 (by omega)
  have c4 := hcell 4 (by omega)
  clear hcell hcells
  rw [add_zero] at c0
  have t0 := (xs.getD 0 0).toNat_lt
  have t1 := (xs.getD 1 0).toNat_lt
  have t2 := (xs.getD 2 0).toNat_lt
  have t3 := (xs.getD 3 0).toNat_lt
  have t4 := (xs.getD 4 0).toNat_lt
  generalize (xs.getD 0 0).toNat = b0 at *
  generalize (xs.getD 1 0).toNat = b1 at *
  generalize (xs.getD 2 0).toNat = k at *
  generalize (xs.getD 3 0).toNat = b3 at *
  generalize (xs.getD 4 0).toNat = b4 at *
  have hr2 : RV w (some (ad.add 2)) (bv (xs.drop 2)) := by rw [bv_drop]; exact hr.drop 2
  have hl2 : (xs.drop 2).length = xs.length - 2 := List.length_drop
  have hn2 := noughts_le (xs.drop 2)
  have hn2' : noughts (xs.drop 2) ≤ 2048 := by omega
  have H0 := Lib.hid (And.intro hr (And.intro (decide_eq_false hb) (And.intro hr2 hl2)))
  generalize hN : noughts (xs.drop 2) = N at hn2' hget
  have HN := Lib.hid hN
  have HG := Lib.hid hget
  clear hr hb hr2 hl2 hn2 hN hget
  go_enter Try.func20, Try.ntmps20
  go_wp2_with (first
    | (go_at_call 40; refine (dSize_yes _ _ (by omega) (by omega)).mono ?_; rintro e w' ⟨rfl, rfl⟩)
    | (go_at_call 41; refine (dBlank_any _ _ xs _ H0.out.1 (by omega)).mono ?_; rintro e w' ⟨rfl, rfl⟩; rw [H0.out.2.1]))
  have hw1 : IntKind.i64.wrap (256 * (b1 : Int)) = 256 * (b1 : Int) := IntWalk.i64_in _ (by omega)
  have hw2 : IntKind.i64.wrap ((b0 : Int) + 256 * (b1 : Int)) = ((b0 + 256 * b1 : Nat) : Int) := (IntWalk.i64_in _ (by omega)).trans (by omega)
  have hw3 : IntKind.i64.wrap (256 * (b4 : Int)) = 256 * (b4 : Int) := IntWalk.i64_in _ (by omega)
  have hw4 : IntKind.i64.wrap ((b3 : Int) + 256 * (b4 : Int)) = ((b3 + 256 * b4 : Nat) : Int) := (IntWalk.i64_in _ (by omega)).trans (by omega)
  generalize hL : xs.length = L at *
  have HL := Lib.hid hL
  clear hL
  have k1 : w.cell? ⟨ad.block, ad.off + 1, none⟩ = some (.int .u8 (b1 : Int)) := c1
  have k2 : w.cell? ⟨ad.block, ad.off + 2, none⟩ = some (.int .u8 (k : Int)) := c2
  have k3 : w.cell? ⟨ad.block, ad.off + 3, none⟩ = some (.int .u8 (b3 : Int)) := c3
  have k4 : w.cell? ⟨ad.block, ad.off + 4, none⟩ = some (.int .u8 (b4 : Int)) := c4
  have i0 : IntKind.i64.wrap (b0 : Int) = (b0 : Int) := IntWalk.i64_in _ (by omega)
  have i1 : IntKind.i64.wrap (b1 : Int) = (b1 : Int) := IntWalk.i64_in _ (by omega)
  have i3 : IntKind.i64.wrap (b3 : Int) = (b3 : Int) := IntWalk.i64_in _ (by omega)
  have i4 : IntKind.i64.wrap (b4 : Int) = (b4 : Int) := IntWalk.i64_in _ (by omega)
  have hq0 : 0 < L := by omega
  have hq1 : (1 : Int) < (L : Int) := by omega
  go_quiet ((go_at_call 42; exact Calls.quiet_of_same ((dNoughts_at _ (L - 2) _ (xs.drop 2) _ H0.out.2.2.2 (H0.out.2.2.1.drewN _) (by omega)).mono fun _ _ h => ⟨h.1, h.2.symm⟩)))
  rw [HN.out]
  generalize nq = nA
  clear nq
  clear hw1 hw2 c1 c3 c4
  by_cases hmN : b0 + 256 * b1 = N
  · have hne : ((b0 : Int) + 256 * (b1 : Int) != (N : Int)) = false := by simp; omega
    have hG := HG.out
    rw [if_neg (fun h => h hmN)] at hG
    clear hmN
    go_wp2_with fail
    go_quiet (fail)
    rw [World.drewN_drewN]
    generalize nA + nq = nB
    clear nA nq
    generalize hn : b3 + 256 * b4 = n at *
    have hnI : (b3 : Int) + 256 * (b4 : Int) = (n : Int) := by omega
    rw [hnI]
    clear hw3 hw4 hnI
    have hnn : (n : Int) ≤ 65535 := by omega
    clear hn hne i0 i1 i3 i4 k1 k3 k4 t0 t1 t3 t4
    have hB := below_drewN (B := w.heap.size) (w := w) (Below.refl _ _) nB
    have fin : ∀ W : World, Below w.heap.size w W → getS xs = (0, [], 5) → GetPageEnd w (getS xs) (.returned (.tuple #[.int .u8 0, .slice none 0 0, .int .i64 5])) W := fun W hW e => by
      rw [e]
      exact ⟨_, rfl, OwnB.nil _ _ _, hW⟩
    have FIN := Lib.hid (And.intro hB fin)
    clear fin hB
    by_cases hk1 : k < 1
    · rw [if_pos (.inl hk1)] at hG
      have HE := Lib.hid hG
      have hd : decide ((k : Int) < 1) = true := by simp; omega
      clear hG hk1
      go_wp2_with fail
      go_ret3
      exact FIN.out.2 _ FIN.out.1 HE.out
    · by_cases hk7 : 7 < k
      · rw [if_pos (.inr (.inl hk7))] at hG
        have HE := Lib.hid hG
        have hd : decide ((k : Int) < 1) = false := by simp; omega
        have hd7 : decide (7 < (k : Int)) = true := by simp; omega
        clear hG hk1 hk7
        go_wp2_with fail
        go_ret3
        exact FIN.out.2 _ FIN.out.1 HE.out
      · have hd : decide ((k : Int) < 1) = false := by simp; omega
        have hd7 : decide (7 < (k : Int)) = false := by simp; omega
        by_cases hln : L - 5 < n
        · rw [if_pos (.inr (.inr (.inl hln)))] at hG
          have HE := Lib.hid hG
          have hdn : decide ((L : Int) - 5 < (n : Int)) = true := by simp; omega
          clear hG hk1 hk7
          go_wp2_with fail
          go_ret3
          exact FIN.out.2 _ FIN.out.1 HE.out
        · have hdn : decide ((L : Int) - 5 < (n : Int)) = false := by simp; omega
          have hr5n := H0.out.1.cut (k := 5 + n) (cap := c) (by rw [bv_length, HL.out]; exact hlc)
          rw [← bv_drop] at hr5n
          have hl5n : (xs.drop (5 + n)).length = L - (5 + n) := by rw [← HL.out]; exact List.length_drop
          have hrt : RV w (some (ad.add 5)) (bv ((xs.drop 5).take n)) := by rw [bv_take, bv_drop]; exact (H0.out.1.drop 5).take n
          have hlt : ((xs.drop 5).take n).length = n := by rw [List.length_take, List.length_drop, HL.out]; omega
          have HR5 := Lib.hid (And.intro (show RV w (if c = 5 + n then some ad else some (ad.add (5 + n))) (bv (xs.drop (5 + n))) by simpa using hr5n) (And.intro hl5n (And.intro hrt hlt)))
          clear hr5n hl5n hrt hlt
          by_cases hbl : blankS (xs.drop (5 + n))
          · rw [if_neg (fun h => h.elim hk1 (fun h => h.elim hk7 (fun h => h.elim hln (fun h => h hbl))))] at hG
            have HE := Lib.hid (And.intro hG (decide_eq_true hbl))
            clear hG hk1 hk7 hbl
            generalize hy : (xs.drop 5).take n = y at HE HR5
            go_wp2_with (first
              | (go_at_call 41; refine (dBlank_at _ _ _ (xs.drop (5 + n)) _ HR5.out.2.1 (HR5.out.1.drewN nB) (by omega)).mono ?_; rintro e w' ⟨rfl, rfl⟩; rw [HE.out.2]))
            all_goals
              have hs5 : IntKind.i64.wrap (5 + (n : Int)) = 5 + (n : Int) := IntWalk.i64_in _ (by omega)
              have hs5n : (5 + (n : Int)).toNat = 5 + n := by omega
              have hln5 : 5 + (n : Int) ≤ (c : Int) := by omega
              have hz5 : (0 : Int) ≤ 5 + (n : Int) := by omega
              have h55 : (5 : Int) ≤ 5 + (n : Int) := by omega
              have hq2 : (2 : Int) < (L : Int) := by omega
              have hbk : ad.block < w.heap.size := World.block_lt_of_cell? w ⟨ad.block, ad.off + 2, none⟩ k2
              have HC := Lib.hid (show ∀ w5 : World, (w.drewN (nB + 1)).grownBy w5 (Value.slice none 0 0).ownBlock → w5.cell? ⟨ad.block, ad.off + 2, none⟩ = some (.int .u8 (k : Int)) from fun w5 h => by
                have hh : w5.heap[(⟨ad.block, ad.off + 2, none⟩ : Addr).block]? = w.heap[(⟨ad.block, ad.off + 2, none⟩ : Addr).block]? := h.block ad.block hbk (by simp [Value.ownBlock])
                exact (World.cell?_of_block hh).trans k2)
              clear hbk
              have HA1 := Lib.hid (show ([] : List UInt8).length + y.length ≤ 140737488355328 by rw [HR5.out.2.2.2]; simp; omega)
            · have HA := Lib.hid (And.intro HR5.out.2.2.2 (show RV w (if n = 0 then some ad else some ⟨ad.block, ad.off + 5, none⟩) (bv y) by
                split
                · rw [List.eq_nil_of_length_eq_zero (l := y) (by have := HR5.out.2.2.2; omega)]; exact RV.nil _ _
                · exact HR5.out.2.2.1))
              go_region_law (refine step_appB (w.drewN (nB + 1)) rfl (.tmp 65) (.tmp 69) 22 rfl w.heap.size 5 Try.underlying22 u8info (.slice none 0 0) [] (by simp [Act.eval, Act.put]) (OwnB.nil _ _ _) (if n = 0 then some ad else some ⟨ad.block, ad.off + 5, none⟩) n n y (by simp [Act.eval, Act.put]) HA.out.1 (HA.out.2.drewN (nB + 1)) HA1.out (Nat.le_refl _) ?_; intro v5 w5 ho5 hg5 hh5; have HZ := Lib.hid (And.intro ho5 hg5); have k6 := HC.out w5 hg5; clear ho5 hg5 hh5)
              all_goals
                go_wp2_with fail
                go_ret3
                rw [HE.out.1]
                exact ⟨v5, rfl, HZ.out.1, below_then (below_drewN (B := w.heap.size) (w := w) (w' := w) (Below.refl _ _) (nB + 1)) (Nat.le_refl _) (grown_none HZ.out.2)⟩
            · have hc5 : ¬ c = 5 := by omega
              have HA := Lib.hid (And.intro HR5.out.2.2.2 (show RV w (some ⟨ad.block, ad.off + 5, none⟩) (bv y) from HR5.out.2.2.1))
              go_region_law (refine step_appB (w.drewN (nB + 1)) rfl (.tmp 65) (.tmp 69) 22 rfl w.heap.size 5 Try.underlying22 u8info (.slice none 0 0) [] (by simp [Act.eval, Act.put]) (OwnB.nil _ _ _) (some ⟨ad.block, ad.off + 5, none⟩) n (c - 5) y (by simp [Act.eval, Act.put]) HA.out.1 (HA.out.2.drewN (nB + 1)) HA1.out (Nat.le_refl _) ?_; intro v5 w5 ho5 hg5 hh5; have HZ := Lib.hid (And.intro ho5 hg5); have k6 := HC.out w5 hg5; clear ho5 hg5 hh5)
              all_goals
                go_wp2_with fail
                go_ret3
                rw [HE.out.1]
                exact ⟨v5, rfl, HZ.out.1, below_then (below_drewN (B := w.heap.size) (w := w) (w' := w) (Below.refl _ _) (nB + 1)) (Nat.le_refl _) (grown_none HZ.out.2)⟩
          · rw [if_pos (.inr (.inr (.inr hbl)))] at hG
            have HE := Lib.hid (And.intro hG (decide_eq_false hbl))
            clear hG hk1 hk7 hbl
            go_wp2_with (first
              | (go_at_call 41; refine (dBlank_at _ _ _ (xs.drop (5 + n)) _ HR5.out.2.1 (HR5.out.1.drewN nB) (by omega)).mono ?_; rintro e w' ⟨rfl, rfl⟩; rw [HE.out.2]))
            all_goals
              go_ret3
              exact FIN.out.2 _ FIN.out.1 HE.out.1
  · have hne : ((b0 : Int) + 256 * (b1 : Int) != (N : Int)) = true := by simp; omega
    have hgt := HG.out
    rw [if_pos hmN] at hgt
    have HGT := Lib.hid hgt
    clear hgt hmN
    go_wp2_with fail
    go_ret3
    rw [HGT.out]
    exact ⟨_, rfl, OwnB.nil _ _ _, below_drewN (B := w.heap.size) (w := w) (Below.refl _ _) _⟩

theorem dGet_any (w : World) (A : Option Addr) (c : Nat) (xs : List UInt8) (hr : RV w A (bv xs)) (hlc : xs.length ≤ c) (hc : c ≤ maxLen) :
    Calls Try.prog 20 #[.slice A xs.length c] w (GetPageEnd w (getS xs)) := by
  by_cases hp : isPage xs.length
  · by_cases hb : blankS xs
    · have e : getS xs = (0, [], 6) := by unfold getS; rw [if_neg (Classical.not_not.2 hp), if_pos hb]
      rw [e]
      exact dGet_blank w A c xs hr hp.1 hp.2 hb
    · exact dGet_rest w A c xs hr hlc hc hp.1 hp.2 hb
  · have e : getS xs = (0, [], 2) := by unfold getS; rw [if_pos hp]
    rw [e]
    exact dGet_size w A c xs hp (Nat.le_trans hlc hc)
end Go.Proofs.Ytegoeagmadhpgaa
