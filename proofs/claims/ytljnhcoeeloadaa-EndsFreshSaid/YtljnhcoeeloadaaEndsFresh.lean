/- EndsFresh: the walk. -/
import Derived.Test.YtljnhcoeeloadaaEndsTakes
import Derived.Test.YtljnhcoeeloadaaWide
import Derived.Test.YtljnhcoeeloadaaSpoil
import Derived.Test.YtljnhcoeeloadaaLeft
set_option linter.unusedVariables false
set_option linter.unusedSimpArgs false
namespace Go.Proofs.Ytljnhcoeeloadaa
open Go.RowKit

theorem rv_wide {e : TypeId} {w : World} {g : Nat} {xs : List UInt8} (h : RowB e w g (xs ++ [7, 7, 7])) : RV w (some ⟨g, 0, none⟩) (bv xs) := by
  have := h.rv.take xs.length
  rwa [← bv_take, List.take_left] at this
theorem below_own {B : Nat} {w0 w w' : World} {v : Value} {xs : List UInt8} {e : TypeId} {base : Nat} (hb : Below B w0 w) (h : OwnB e w base v xs) (hg : w.grownBy w' v.ownBlock) (hB : B ≤ w.heap.size) (hbase : B ≤ base) : Below B w0 w' :=
  hb.grown hg hB (fun k hk => Nat.le_trans hbase (h.blk hk).1)
theorem rowB_own {w w' : World} {v : Value} {xs full : List UInt8} {e e' : TypeId} {base g : Nat} (r : RowB e w g full) (h : OwnB e' w base v xs) (hg : w.grownBy w' v.ownBlock) (hlt : g < base) : RowB e w' g full :=
  r.grown hg (fun e => by have := (h.blk e.symm).1; omega)
theorem pair_own {B : Nat} {w w' : World} {g : Nat} {h : Option Nat} {g2 : Nat} {h2 : Option Nat} {st : Option (List UInt8)} {v : Value} {xs : List UInt8} {e : TypeId} {base : Nat} (p : Pair B w g h g2 h2 st) (ho : OwnB e w base v xs) (hg : w.grownBy w' v.ownBlock)
    (h1 : g < base) (h3 : g2 < base) (h4 : ∀ k, h = some k → k < base) (h5 : ∀ k, h2 = some k → k < base) : Pair B w' g h g2 h2 st := by
  refine ⟨p.1.keep fun k hk e => hg.block k hk (fun e' => ?_), p.2.1.keep fun k hk e => hg.block k hk (fun e' => ?_), p.2.2⟩
  · have hb := (ho.blk e'.symm).1
    rcases e with rfl | e
    · omega
    · have := h4 _ e.symm; omega
  · have hb := (ho.blk e'.symm).1
    rcases e with rfl | e
    · omega
    · have := h5 _ e.symm; omega

set_option maxRecDepth 100000 in
set_option maxHeartbeats 2000000 in
theorem walkEndsFresh (w : World) (A : Option Addr) (c : Nat) (xs : List UInt8) (hr : RV w A (bv xs)) (hR : xs.length ≤ 140737488351232) :
    Calls Try.prog 8 #[.slice A xs.length c] w fun e w' => e = .returned (.bool true) ∧ Below w.heap.size w w' := by
  have HR := Lib.hid (And.intro hr (show xs.length ≤ 140737488355328 by omega))
  clear hr
  go_enter Try.func8, Try.ntmps8
  go_wp2_with fail
  refine (wide_any w A c xs HR.out.1 HR.out.2).mono ?_
  rintro e w1 ⟨gv, rfl, hgv, hrow, hb1⟩
  have H1 := Lib.hid (And.intro hrow (And.intro hgv hb1))
  clear hrow hgv hb1
  go_wp2_with fail
  refine (putRow_any w1 _ _ xs (rv_wide H1.out.1) (by unfold maxLen; omega)).mono ?_
  rintro e w2 ⟨v2, rfl, ho2, hb2⟩
  have H2 := Lib.hid (And.intro ho2 hb2)
  clear ho2 hb2
  generalize rowPutS xs = q at H2
  go_wp2_with fail
  refine (spoil_own w2 _ v2 q.1 1 1 rfl H2.out.1).mono ?_
  rintro e w3 ⟨rfl, hg3⟩
  have hr3 : RowB 5 w3 gv (xs ++ [7, 7, 7]) := rowB_own (H1.out.1.belowAll H2.out.2) H2.out.1 hg3 H1.out.1.lt
  have hb3 : Below w.heap.size w w3 := below_own (below_then H1.out.2.2 H1.out.2.2.size H2.out.2) H2.out.1 hg3 (Nat.le_trans H1.out.2.2.size H2.out.2.size) H1.out.2.2.size
  have H3 := Lib.hid (And.intro hr3 hb3)
  clear hg3 hr3 hb3
  go_wp2_with fail
  refine (new_any w3 _ _ xs (rv_wide H3.out.1) HR.out.2).mono ?_
  rintro e w4 ⟨g, h, rfl, hrd, hb4, hg, hgs, hh⟩
  have H4 := Lib.hid (And.intro hrd (And.intro hb4 (And.intro hg (And.intro hgs hh))))
  clear hrd hb4 hh hg hgs
  go_wp2_with fail
  refine (copy_any w4 A c xs (HR.out.1.below (below_then H3.out.2 H3.out.2.size H4.out.2.1)) HR.out.2).mono ?_
  rintro e w5 ⟨v5, rfl, ho5, hb5⟩
  obtain ⟨A5, c5, rfl, _, _, _, _⟩ := ho5.slice
  have H5 := Lib.hid (And.intro ho5 hb5)
  clear ho5 hb5
  go_wp2_with fail
  have hpair : Pair w3.heap.size (w5.alloc (.cells #[.slice A5 xs.length c5, .bool false] 29)) g h w5.heap.size ((Value.slice A5 xs.length c5).ownBlock) (some xs) := by
    obtain ⟨hrd, hb1, hg, hgs, hh⟩ := H4.out
    obtain ⟨ho2, hb2⟩ := H5.out
    have hs := hb2.size
    have hs1 := hb1.size
    refine ⟨(hrd.below hb2).below ((Below.refl _ _).alloc (Nat.le_refl _) _), rdr_new ho2, by omega, fun e => ?_, fun e => ?_, hg, by omega⟩
    · have := (hh _ e.symm).2
      omega
    · have := (ho2.blk e.symm).1
      omega
  have hbelow : Below w3.heap.size w3 (w5.alloc (.cells #[.slice A5 xs.length c5, .bool false] 29)) :=
    (below_then H4.out.2.1 H4.out.2.1.size H5.out.2).alloc (Nat.le_trans H4.out.2.1.size H5.out.2.size) _
  have hmem : (∀ k, h = some k → w3.heap.size ≤ k ∧ k < w5.heap.size) ∧ (∀ k, (Value.slice A5 xs.length c5).ownBlock = some k → w3.heap.size ≤ k ∧ k < w5.heap.size) := by
    have hs := H5.out.2.size
    have hs4 := H4.out.2.1.size
    refine ⟨fun k hk => ?_, fun k hk => ?_⟩
    · have := H4.out.2.2.2.2 k hk
      omega
    · have := H5.out.1.blk hk
      omega
  have H6 := Lib.hid (And.intro hpair (And.intro hbelow hmem))
  clear hpair hbelow hmem
  generalize hh2 : (Value.slice A5 xs.length c5).ownBlock = h2 at H6
  generalize hW : (w5.alloc (.cells #[.slice A5 xs.length c5, .bool false] 29)) = W at H6 ⊢
  have hWs : W.heap.size = w5.heap.size + 1 := by rw [← hW]; simp
  have HW := Lib.hid hWs
  clear hh2 hW hWs
  refine (left_yes W gv A c xs (H3.out.1.belowAll H6.out.2.1) (HR.out.1.below (below_then H3.out.2 H3.out.2.size H6.out.2.1)) HR.out.2).mono ?_
  rintro e w7 ⟨rfl, hd7⟩
  have H7 := Lib.hid hd7
  clear hd7
  go_wp2_with fail
  refine (spoil_at w7 gv xs.length (xs.length + 3) (xs ++ [7, 7, 7]) 1 1 rfl ((H3.out.1.belowAll H6.out.2.1).belowAll (H7.out.below _)) (by simp) (by unfold maxLen; omega) (by omega)).mono ?_
  rintro e w8 ⟨rfl, _, hg8⟩
  have hgv3 : gv < w3.heap.size := H3.out.1.lt
  have hp8 : Pair w3.heap.size w8 g h w5.heap.size h2 (some xs) := by
    have p := H6.out.1.drawn H7.out
    have hne := H6.out.1
    refine ⟨p.1.grown hg8 (by have := hne.2.2.2.2.2.1; omega) (fun e => by have := (H6.out.2.2.1 _ e.symm).1; omega), p.2.1.grown hg8 (by have := hne.2.2.2.2.2.2; omega) (fun e => by have := (H6.out.2.2.2 _ e.symm).1; omega), p.2.2⟩
  have hb8 : Below w.heap.size w w8 := below_grown ((below_then H3.out.2 H3.out.2.size H6.out.2.1).trans (H7.out.below _)) hg8 (by have := ((below_then H3.out.2 H3.out.2.size H6.out.2.1).trans (H7.out.below _)).size; omega) H1.out.2.1
  have hs8 : W.heap.size ≤ w8.heap.size := Nat.le_trans (H7.out.below 0).size hg8.size
  have H8 := Lib.hid (And.intro hp8 (And.intro hb8 hs8))
  clear hg8 hp8 hb8 hs8
  go_wp2_with fail
  refine (row_any H8.out.1.1).mono ?_
  rintro e w9 ⟨v9, rfl, ho9, hrd9, hg9⟩
  generalize hq : rowS (some xs) = q at *
  have H9 := Lib.hid (And.intro hq (And.intro ho9 (And.intro hrd9 hg9)))
  clear hq ho9 hrd9 hg9
  go_wp2_with fail
  refine (rrow_any (H8.out.1.mid H9.out.2.2.2)).mono ?_
  rintro e w10 ⟨v10, rfl, ho10, hrd10, hg10⟩
  rw [H9.out.1] at ho10 hrd10 ⊢
  have hp10 := H8.out.1.both H9.out.2.2.1 H9.out.2.2.2 hrd10 hg10
  have ho9 := own_keptAt H9.out.2.1 hg10 H8.out.1.2.1.lt
  have hB : w.heap.size ≤ w3.heap.size := H3.out.2.size
  have hb10 : Below w.heap.size w w10 := below_grown (below_grown H8.out.2.1 H9.out.2.2.2 H8.out.2.1.size (Nat.le_trans hB H6.out.1.2.2.2.2.2.1)) hg10 (Nat.le_trans H8.out.2.1.size H9.out.2.2.2.size) (Nat.le_trans hB H6.out.1.2.2.2.2.2.2)
  have H10 := Lib.hid (And.intro hp10 (And.intro ho9 (And.intro ho10 (And.intro hb10 hg10))))
  clear hp10 ho9 ho10 hb10 hg10 hrd10 hB
  go_wp2_with fail
  refine (same_own w10 _ _ v9 v10 q.1 H10.out.2.1 H10.out.2.2.1).mono ?_
  rintro e w11 ⟨rfl, hd11⟩
  have H11 := Lib.hid hd11
  clear hd11
  go_wp2_with fail
  have ho11 : OwnB 5 w11 w8.heap.size v9 q.1 := H10.out.2.1.drawn H11.out
  refine (spoil_own w11 _ v9 q.1 1 1 rfl ho11).mono ?_
  rintro e w12 ⟨rfl, hg12⟩
  have hp12 : Pair w3.heap.size w12 g h w5.heap.size h2 q.2.2 := by
    have hs8 := H8.out.2.2
    have hWs := HW.out
    have hg' := H8.out.1.1.lt
    exact pair_own (H10.out.1.drawn H11.out) ho11 hg12 hg' (by omega) (fun k e => by have := (H6.out.2.2.1 k e).2; omega) (fun k e => by have := (H6.out.2.2.2 k e).2; omega)
  have hb12 : Below w.heap.size w w12 := below_own (H10.out.2.2.2.1.trans (H11.out.below _)) ho11 hg12 (H10.out.2.2.2.1.trans (H11.out.below _)).size H8.out.2.1.size
  have H12 := Lib.hid (And.intro hp12 hb12)
  clear hg12 hp12 hb12 ho11
  go_wp2_with fail
  refine (take_any (s := 1) H12.out.1.1 isSz1).mono ?_
  rintro e w13 ⟨rfl, hrd13, hg13⟩
  generalize ht : takeS q.2.2 1 = t at *
  have H13 := Lib.hid (And.intro ht (And.intro hrd13 hg13))
  clear ht hrd13 hg13
  go_wp2_with fail
  refine (rtake_any (s := 1) (H12.out.1.mid H13.out.2.2) isSz1).mono ?_
  rintro e w14 ⟨rfl, hrd14, hg14⟩
  rw [H13.out.1]
  have hB : w.heap.size ≤ w3.heap.size := H3.out.2.size
  have hb14 : Below w.heap.size w w14 := below_grown (below_grown H12.out.2 H13.out.2.2 H12.out.2.size (Nat.le_trans hB H6.out.1.2.2.2.2.2.1)) hg14 (Nat.le_trans H12.out.2.size H13.out.2.2.size) (Nat.le_trans hB H6.out.1.2.2.2.2.2.2)
  have H14 := Lib.hid hb14
  clear hb14 hg14 hrd14 hB
  go_wp2_with (go_at_call 18; refine (works_any _).mono ?_; rintro e w15 ⟨rfl, hb15⟩; have H15 := Lib.hid hb15; clear hb15)
  go_ret
  exact ⟨rfl, below_then H14.out H14.out.size H15.out⟩
end Go.Proofs.Ytljnhcoeeloadaa
