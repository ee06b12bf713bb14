import Derived.StillTailTactics
import Derived.Test.YtckpgbkabbddnaaCutSM
import Derived.Test.YtckpgbkabbddnaaIntsM
import Derived.Test.YtckpgbkabbddnaaSizeBM
import Derived.Test.YtckpgbkabbddnaaKeyCM
set_option linter.unusedVariables false
set_option linter.unusedSimpArgs false
/- Layer 13: contract of cuts. -/
namespace Go.Proofs.Ytckpgbkabbddnaa
open Go.RowKit

def CutsEnd (w : World) (r : List Nat × Nat) (e : Ending) (w' : World) : Prop :=
  ∃ v, e = .returned (.tuple #[v, .int .i64 (r.2 : Int)]) ∧ OwnI 3 w' w.heap.size v r.1 ∧ Below w.heap.size w w'

theorem cuts_size (w : World) (s : Int) (A : Option Addr) (n d : Nat) (l : List Fct) (hs : ¬ (128 ≤ s ∧ s ≤ 256)) :
    Calls Try.prog 22 #[.int .i64 s, .slice A n d] w (CutsEnd w (cutsS s l)) := by
  have h1 : cutsS s l = ([], 2) := if_pos hs
  have h2 : bodyS s = 0 := if_neg hs
  rw [h1]
  have H := fun w => body_any s w
  rw [h2] at H
  have HB := Lib.hid H
  clear H h1 h2 hs
  go_enter Try.func22, Try.ntmps22
  go_wp2_with (go_at_call 30; refine (HB.out _).mono ?_; rintro e w1 ⟨rfl, rfl⟩)
  go_ret2
  exact ⟨_, rfl, OwnI.nil _ _ _, Below.refl _ _⟩

set_option maxRecDepth 100000 in
set_option maxHeartbeats 8000000 in
theorem cuts_ok (w : World) (s : Int) (A : Option Addr) (n d : Nat) (l : List Fct) (h : FctsIn w A n l) (hv : ∀ f ∈ l, f.val.length ≤ 140737488351232) (hn : n * 64 ≤ 140737488351232) (hs : 128 ≤ s ∧ s ≤ 256) :
    Calls Try.prog 22 #[.int .i64 s, .slice A n d] w (CutsEnd w (cutsS s l)) := by
  have h1 : cutsS s l = if ¬ goodL l then ([], 2) else if longB (s.toNat - 6) l = true then ([], 3) else (cutsGo (s.toNat - 6) l 0 0 0, 0) := if_neg fun h => h hs
  obtain ⟨r, hr⟩ : ∃ r, cutsS s l = r := ⟨_, rfl⟩
  rw [hr]
  have hres := h1.symm.trans hr
  clear h1 hr
  have h2 : (bodyS s : Int) - 1 = ((s.toNat - 6 : Nat) : Int) := by rw [show bodyS s = s.toNat - 5 from if_pos hs]; omega
  have hR : s.toNat - 6 ≤ 250 := by omega
  obtain ⟨b, hb⟩ : ∃ b, bodyS s = b := ⟨_, rfl⟩
  have HB := fun w => body_any s w
  rw [hb] at HB h2
  have HB := Lib.hid HB
  have hb5 : b = (s.toNat - 6) + 1 := by omega
  clear hb h2
  generalize s.toNat - 6 = R at *
  have HR := Lib.hid hres
  clear hres
  clear hs
  subst hb5
  have H := Lib.hid (And.intro h (And.intro h.1 hv))
  clear h hv
  go_enter Try.func22, Try.ntmps22
  go_wp2_with (go_at_call 30; refine (HB.out _).mono ?_; rintro e w1 ⟨rfl, rfl⟩)
  go_loopg [7, 24] n (fun k lg i wr => ∃ j : Nat, j + k = n ∧ i = .int .i64 j ∧ lg = .bool (longB R (l.take j)) ∧ Below w.heap.size w wr ∧ ∀ i f, i < j → l[i]? = some f → stepOk l i f)
  case atStart => exact ⟨0, by omega, rfl, rfl, Below.refl _ _, fun i f h => by omega⟩
  case round =>
    obtain ⟨j, hj, rfl, rfl, hb, hall⟩ := hrel
    have HX := Lib.hid (And.intro hj (And.intro hb hall))
    clear hj hb hall
    by_cases hlt : j < n
    · obtain ⟨f, hf⟩ : ∃ f, l[j]? = some f := ⟨_, List.getElem?_eq_getElem (by have := H.out.2.1; omega)⟩
      obtain ⟨okf, ad, B1, d1, hA, hr1, l1, l2, hblk, x0, x1, x2, x3, x4⟩ := FctsIn.at_ H.out.1 hf
      subst hA
      have up : ∀ {p : Addr} {u : Value}, w.cell? p = some u → p.block < w.heap.size → wr.cell? p = some u := fun hu hp => (World.cell?_of_block (HX.out.2.1.block _ hp)).trans hu
      have p0 := up x0 hblk
      have p1 := up x1 hblk
      have p2 := up x2 hblk
      have p3 := up x3 hblk
      have p4 := up x4 hblk
      have HC := Lib.hid (fun w => cost_any w f okf B1 f.val.length d1 rfl (H.out.2.2 f (List.mem_of_getElem? hf)))
      have hvl := H.out.2.2 f (List.mem_of_getElem? hf)
      have HV := Lib.hid (And.intro hf (And.intro okf hr1))
      clear x0 x1 x2 x3 x4 up hf okf hr1
      have hjn : (j : Int) < (n : Int) := by omega
      obtain ⟨⟨fi, fa, fs, fc⟩, fv⟩ := f
      dsimp only at p0 p1 p2 p3 p4 HC hvl l1
      obtain ⟨c, hc⟩ : ∃ c, costS ⟨⟨fi, fa, fs, fc⟩, fv⟩ = c := ⟨_, rfl⟩
      rw [hc] at HC
      obtain ⟨L, hL⟩ : ∃ L, fv.length = L := ⟨_, rfl⟩
      rw [hL] at p4 HC hvl l1
      have hcL : fOk ⟨⟨fi, fa, fs, fc⟩, fv⟩ ↔ c ≠ 0 ∧ 1 ≤ L ∧ L ≤ 255 := by
        unfold fOk
        rw [← hc, ← hL, Ne, costS_zero, Classical.not_not]
      have hcm : c ≤ 140737488351260 := by
        rw [← hc]
        unfold costS
        split
        · have := keyB_le' ‹_›
          rw [hL]
          omega
        · omega
      have hblk1 := fun w1 (hb1 : Below (wr.alloc (.cells #[.int .i64 fi, .int .u8 (fa.toNat : Int), .string fs, .int .i64 fc, .slice B1 L d1] 41)).heap.size (wr.alloc (.cells #[.int .i64 fi, .int .u8 (fa.toNat : Int), .string fs, .int .i64 fc, .slice B1 L d1] 41)) w1) => (Blk.new wr 41 #[.int .i64 fi, .int .u8 (fa.toNat : Int), .string fs, .int .i64 fc, .slice B1 L d1]).below hb1 (Blk.new wr 41 #[.int .i64 fi, .int .u8 (fa.toNat : Int), .string fs, .int .i64 fc, .slice B1 L d1]).lt
      have HB1 := Lib.hid hblk1
      have HL := Lib.hid (And.intro hc (And.intro hL hcL))
      clear hblk1 hc hL hcL
      obtain ⟨lb, hlb⟩ : ∃ lb, longB R (l.take j) = lb := ⟨_, rfl⟩
      rw [hlb]
      have HLB := Lib.hid hlb
      clear hlb
      by_cases hfo : fOk ⟨⟨fi, fa, fs, fc⟩, fv⟩
      · obtain ⟨h0, h1, h2⟩ := HL.out.2.2.1 hfo
        have q0 : ((c : Int) == 0) = false := beq_eq_false_iff_ne.2 (by omega)
        have q1 : decide ((L : Int) < 1) = false := decide_eq_false (by omega)
        have q2 : decide (255 < (L : Int)) = false := decide_eq_false (by omega)
        clear h0
        rcases Nat.eq_zero_or_pos j with hj0 | hj0
        · have q3 : decide (0 < (j : Int)) = false := decide_eq_false (by omega)
          have q4 : decide (0 < j) = false := decide_eq_false (by omega)
          have hst : stepOk l j ⟨⟨fi, fa, fs, fc⟩, fv⟩ := ⟨hfo, fun p h => by omega⟩
          have HJ := Lib.hid hj0
          clear hfo hj0
          go_wp2_with fail
          refine (HC.out _).mono ?_
          rintro e w1 ⟨rfl, hb1⟩
          have c4 := (HB1.out w1 hb1).cell 4
          simp at c4
          have H1 := Lib.hid (below_then HX.out.2.1 HX.out.2.1.size (below_new hb1))
          clear hb1 p0 p1 p2 p3 p4
          go_wp2_with fail
          go_quiet (fail)
          have hbd := below_drewN H1.out nq
          generalize w1.drewN nq = w2 at *
          have HD := Lib.hid hbd
          clear hbd
          have hnew : longB R (l.take (j + 1)) = (lb || decide ((R : Int) < (c : Int))) := by
            rw [List.take_add_one, HV.out.1, ← HLB.out]
            simp only [longB, List.any_append, Option.toList_some, List.any_cons, List.any_nil, Bool.or_false, HL.out.1]
            congr 1
            exact decide_eq_decide.2 (by omega)
          have hall : ∀ i f, i < j + 1 → l[i]? = some f → stepOk l i f := by
            intro i f hi hf
            rcases Nat.lt_or_ge i j with h | h
            · exact HX.out.2.2 i f h hf
            · obtain rfl : i = j := by omega
              rw [HV.out.1] at hf
              cases hf
              exact hst
          have HN := Lib.hid (And.intro hnew hall)
          clear hnew hall hst
          cases lb with
          | true =>
            go_wp2_with fail
            go_roundg (n - (j + 1))
            case measure => have := HX.out.1; omega
            case rel => exact ⟨j + 1, by have := HX.out.1; omega, by go_num, by rw [HN.out.1]; rfl, HD.out, HN.out.2⟩
          | false =>
            go_wp2_with fail
            go_roundg (n - (j + 1))
            case measure => have := HX.out.1; omega
            case rel => exact ⟨j + 1, by have := HX.out.1; omega, by go_num, by rw [HN.out.1]; simp, HD.out, HN.out.2⟩
        · have q3 : decide (0 < (j : Int)) = true := decide_eq_true (by omega)
          obtain ⟨m, hm⟩ : ∃ m, j = m + 1 := ⟨j - 1, by omega⟩
          have hwm : IntKind.i64.wrap ((j : Int) - 1) = (m : Int) := by rw [hm]; exact (IntWalk.i64_in _ (by omega)).trans (by omega)
          have hmn : (m : Int) < (n : Int) := by omega
          obtain ⟨x, hx⟩ : ∃ x, l[m]? = some x := ⟨_, List.getElem?_eq_getElem (by have := H.out.2.1; omega)⟩
          obtain ⟨okx, ad', B2, d2, hA', _, _, _, hblk', x0, x1, x2, x3, x4⟩ := FctsIn.at_ H.out.1 hx
          injection hA' with hA'
          subst hA'
          have HXX := Lib.hid (And.intro hx (And.intro hblk' (And.intro x0 (And.intro x1 (And.intro x2 (And.intro x3 hm))))))
          clear x0 x1 x2 x3 x4 hx hm
          obtain ⟨⟨xi, xa, xs, xc⟩, xv⟩ := x
          dsimp only at HXX
          have HK := Lib.hid (fun w => beforeK_any w ⟨xi, xa, xs, xc⟩ ⟨fi, fa, fs, fc⟩)
          unfold Ky.val at HK
          dsimp only at HK
          go_wp2_with fail
          refine (HC.out _).mono ?_
          rintro e w1 ⟨rfl, hb1⟩
          have hblk1 := HB1.out w1 hb1
          have c0 := hblk1.cell 0
          have c1 := hblk1.cell 1
          have c2 := hblk1.cell 2
          have c3 := hblk1.cell 3
          have c4 := hblk1.cell 4
          simp at c0 c1 c2 c3 c4
          have H1 := Lib.hid (below_then HX.out.2.1 HX.out.2.1.size (below_new hb1))
          clear hb1 p0 p1 p2 p3 p4 hblk1
          have up : ∀ {p : Addr} {u : Value}, w.cell? p = some u → p.block < w.heap.size → w1.cell? p = some u := fun hu hp => (World.cell?_of_block (H1.out.block _ hp)).trans hu
          have p0 := up HXX.out.2.2.1 hblk'
          have p1 := up HXX.out.2.2.2.1 hblk'
          have p2 := up HXX.out.2.2.2.2.1 hblk'
          have p3 := up HXX.out.2.2.2.2.2.1 hblk'
          clear up
          go_wp2_with fail
          refine wp_region_still_tail 26 (by kernel_rfl) (by kernel_rfl) ?_
          simp only [List.take_succ_cons, List.take_zero, List.drop_succ_cons, List.drop_zero]
          repeat still_step
          refine wpStill_nil ?_
          change wpList _ _ _ _ _ w1.drew
          have hbd : Below w.heap.size w w1.drew := H1.out.drew
          have HD1 := Lib.hid hbd
          clear hbd c0 c1 c2 c3 c4 p0 p1 p2 p3
          generalize w1.drew = w2 at *
          go_wp2_with fail
          refine (HK.out w2).mono ?_
          rintro e w3 ⟨rfl, hb3⟩
          have HD := Lib.hid (below_then HD1.out HD1.out.size hb3)
          clear hb3
          by_cases hlt' : keyLt ⟨xi, xa, xs, xc⟩ ⟨fi, fa, fs, fc⟩
          · have hst : stepOk l j ⟨⟨fi, fa, fs, fc⟩, fv⟩ := ⟨hfo, fun p _ hp => by
              have hx := HXX.out.1
              rw [HXX.out.2.2.2.2.2.2, Nat.add_sub_cancel, hx] at hp
              cases hp
              exact hlt'⟩
            rw [decide_eq_true hlt']
            clear hfo hlt'
            have hnew : longB R (l.take (j + 1)) = (lb || decide ((R : Int) < (c : Int))) := by
              rw [List.take_add_one, HV.out.1, ← HLB.out]
              simp only [longB, List.any_append, Option.toList_some, List.any_cons, List.any_nil, Bool.or_false, HL.out.1]
              congr 1
              exact decide_eq_decide.2 (by omega)
            have hall : ∀ i f, i < j + 1 → l[i]? = some f → stepOk l i f := by
              intro i f hi hf
              rcases Nat.lt_or_ge i j with h | h
              · exact HX.out.2.2 i f h hf
              · obtain rfl : i = j := by omega
                rw [HV.out.1] at hf
                cases hf
                exact hst
            have HN := Lib.hid (And.intro hnew hall)
            clear hnew hall hst
            cases lb with
            | true =>
              go_wp2_with fail
              go_roundg (n - (j + 1))
              case measure => have := HX.out.1; omega
              case rel => exact ⟨j + 1, by have := HX.out.1; omega, by go_num, by rw [HN.out.1]; rfl, HD.out, HN.out.2⟩
            | false =>
              go_wp2_with fail
              go_roundg (n - (j + 1))
              case measure => have := HX.out.1; omega
              case rel => exact ⟨j + 1, by have := HX.out.1; omega, by go_num, by rw [HN.out.1]; simp, HD.out, HN.out.2⟩
          · have hr : r = ([], 2) := by
              rw [← HR.out, if_pos (fun hg => hlt' (((goodL_iff l).1 hg j _ HV.out.1).2 _ hj0 (by rw [HXX.out.2.2.2.2.2.2, Nat.add_sub_cancel]; exact HXX.out.1)))]
            have HRR := Lib.hid hr
            rw [decide_eq_false hlt']
            clear hr hfo hlt'
            go_wp2_with fail
            go_ret2
            rw [HRR.out]
            exact ⟨_, rfl, OwnI.nil _ _ _, HD.out⟩
      · have hr : r = ([], 2) := by
          rw [← HR.out, if_pos (fun hg => hfo ((goodL_iff l).1 hg j _ HV.out.1).1)]
        have HRR := Lib.hid hr
        clear hr
        have hcase : c = 0 ∨ (c ≠ 0 ∧ L < 1) ∨ (c ≠ 0 ∧ 1 ≤ L ∧ 255 < L) := by
          rw [HL.out.2.2] at hfo
          omega
        clear hfo
        rcases hcase with h0 | ⟨h0, h1⟩ | ⟨h0, h1, h2⟩
        · have q0 : ((c : Int) == 0) = true := by rw [h0]; rfl
          clear h0
          go_wp2_with fail
          refine (HC.out _).mono ?_
          rintro e w1 ⟨rfl, hb1⟩
          have c4 := (HB1.out w1 hb1).cell 4
          simp at c4
          have H1 := Lib.hid (below_then HX.out.2.1 HX.out.2.1.size (below_new hb1))
          clear hb1 p0 p1 p2 p3 p4
          go_wp2_with fail
          go_quiet (fail)
          have hbd := below_drewN H1.out nq
          generalize w1.drewN nq = w2 at *
          have HD := Lib.hid hbd
          clear hbd
          go_wp2_with fail
          go_ret2
          rw [HRR.out]
          exact ⟨_, rfl, OwnI.nil _ _ _, HD.out⟩
        · have q0 : ((c : Int) == 0) = false := beq_eq_false_iff_ne.2 (by omega)
          have q1 : decide ((L : Int) < 1) = true := decide_eq_true (by omega)
          clear h0
          go_wp2_with fail
          refine (HC.out _).mono ?_
          rintro e w1 ⟨rfl, hb1⟩
          have c4 := (HB1.out w1 hb1).cell 4
          simp at c4
          have H1 := Lib.hid (below_then HX.out.2.1 HX.out.2.1.size (below_new hb1))
          clear hb1 p0 p1 p2 p3 p4
          go_wp2_with fail
          go_quiet (fail)
          have hbd := below_drewN H1.out nq
          generalize w1.drewN nq = w2 at *
          have HD := Lib.hid hbd
          clear hbd
          go_wp2_with fail
          go_ret2
          rw [HRR.out]
          exact ⟨_, rfl, OwnI.nil _ _ _, HD.out⟩
        · have q0 : ((c : Int) == 0) = false := beq_eq_false_iff_ne.2 (by omega)
          have q1 : decide ((L : Int) < 1) = false := decide_eq_false (by omega)
          have q2 : decide (255 < (L : Int)) = true := decide_eq_true (by omega)
          clear h0
          go_wp2_with fail
          refine (HC.out _).mono ?_
          rintro e w1 ⟨rfl, hb1⟩
          have c4 := (HB1.out w1 hb1).cell 4
          simp at c4
          have H1 := Lib.hid (below_then HX.out.2.1 HX.out.2.1.size (below_new hb1))
          clear hb1 p0 p1 p2 p3 p4
          go_wp2_with fail
          go_quiet (fail)
          have hbd := below_drewN H1.out nq
          generalize w1.drewN nq = w2 at *
          have HD := Lib.hid hbd
          clear hbd
          go_wp2_with fail
          go_ret2
          rw [HRR.out]
          exact ⟨_, rfl, OwnI.nil _ _ _, HD.out⟩
    · obtain rfl : j = n := by have := HX.out.1; omega
      have hgood : goodL l := (goodL_iff l).2 fun i f hf => HX.out.2.2 i f (by have := (List.getElem?_eq_some_iff.1 hf).1; have := H.out.2.1; omega) hf
      rw [List.take_of_length_le (by have := H.out.2.1; omega)]
      have hge : ¬ (j : Int) < (j : Int) := by omega
      have hr := HR.out
      rw [if_neg (fun h => h hgood)] at hr
      have HG := Lib.hid hgood
      clear hgood
      by_cases hlong : longB R l = true
      · rw [if_pos hlong] at hr
        rw [hlong]
        have HRR := Lib.hid hr
        clear hr hlong
        go_wp2_with fail
        go_ret2
        rw [← HRR.out]
        exact ⟨_, rfl, OwnI.nil _ _ _, HX.out.2.1⟩
      · rw [if_neg hlong] at hr
        have hlf : longB R l = false := by simpa using hlong
        rw [hlf]
        have hshort : ∀ f ∈ l, costS f ≤ R := by
          intro f hf
          unfold longB at hlf
          rw [List.any_eq_false] at hlf
          have := hlf f hf
          simp at this
          exact this
        have HRR := Lib.hid (And.intro hr hshort)
        clear hr hlong hlf hshort
        obtain ⟨ii, iz, hii, hiz, hi1, hi2, hi3⟩ := int_info'
        have HXB := Lib.hid HX.out.2.1
        clear HX
        go_wp2_with fail
        go_loopg [11, 12, 13, 71] j (fun k o fr us i wr => ∃ (q m u : Nat) (acc : List Nat), q + k = j ∧ i = .int .i64 q ∧ fr = .int .i64 m ∧ us = .int .i64 u ∧ OwnI 3 wr w.heap.size o acc ∧ Below w.heap.size w wr ∧ acc ++ cutsGo R (l.drop q) q m u = cutsGo R l 0 0 0 ∧ acc.length ≤ q ∧ m ≤ q ∧ u ≤ R)
        case atStart => exact ⟨0, 0, 0, [], by omega, rfl, rfl, rfl, OwnI.nil _ _ _, HXB.out, rfl, by simp, by omega, by omega⟩
        case round =>
          obtain ⟨q, m, u, acc, hq, rfl, rfl, rfl, ho, hb, heq, hac, hmq, huR⟩ := hrel
          have HX := Lib.hid (And.intro hq (And.intro ho (And.intro hb heq)))
          clear hq ho hb heq
          by_cases hlt2 : q < j
          · have hqj : (q : Int) < (j : Int) := by omega
            obtain ⟨f, hf⟩ : ∃ f, l[q]? = some f := ⟨_, List.getElem?_eq_getElem (by have := H.out.2.1; omega)⟩
            obtain ⟨okf, ad, B1, d1, hA, hr1, l1, l2, hblk, x0, x1, x2, x3, x4⟩ := FctsIn.at_ H.out.1 hf
            subst hA
            have up : ∀ {p : Addr} {u : Value}, w.cell? p = some u → p.block < w.heap.size → wr.cell? p = some u := fun hu hp => (World.cell?_of_block (HX.out.2.2.1.block _ hp)).trans hu
            have p0 := up x0 hblk
            have p1 := up x1 hblk
            have p2 := up x2 hblk
            have p3 := up x3 hblk
            have p4 := up x4 hblk
            have HC := Lib.hid (fun w => cost_any w f okf B1 f.val.length d1 rfl (H.out.2.2 f (List.mem_of_getElem? hf)))
            have hcR := HRR.out.2 f (List.mem_of_getElem? hf)
            have hd : l.drop q = f :: l.drop (q + 1) := by
              have h1 := (List.getElem?_eq_some_iff.1 hf)
              obtain ⟨h2, h3⟩ := h1
              rw [List.drop_eq_getElem_cons h2, h3]
            have heq := HX.out.2.2.2
            rw [hd, cutsGo] at heq
            clear x0 x1 x2 x3 x4 up hf okf hr1 hd
            obtain ⟨⟨fi, fa, fs, fc⟩, fv⟩ := f
            dsimp only at p0 p1 p2 p3 p4 HC l1
            generalize costS ⟨⟨fi, fa, fs, fc⟩, fv⟩ = c at *
            generalize fv.length = L at *
            by_cases hcut : q = 0 ∨ R < u + c ∨ q - m = 255
            · rw [if_pos hcut] at heq
              have HE := Lib.hid heq
              clear heq
              have hcase : (q = 0) ∨ (q ≠ 0 ∧ R < u + c) ∨ (q ≠ 0 ∧ ¬ R < u + c ∧ q - m = 255) := by omega
              clear hcut
              rcases hcase with h0 | ⟨h0, h1⟩ | ⟨h0, h1, h2⟩
              · have q0 : ((q : Int) == 0) = true := by rw [h0]; rfl
                have HJ := Lib.hid h0
                clear h0
                go_wp2_with fail
                refine (HC.out _).mono ?_
                rintro e w1 ⟨rfl, hb1⟩
                have H1 := Lib.hid (And.intro (HX.out.2.1.below (below_new hb1)) (below_then HX.out.2.2.1 HX.out.2.2.1.size (below_new hb1)))
                clear hb1 p0 p1 p2 p3 p4
                go_wp2_with (at_builtin; refine wpList_appI w1 rfl _ _ 49 rfl w.heap.size 3 ii iz Try.underlying49 hii hiz hi1 hi2 hi3 u11 acc rfl H1.out.1 q _ rfl rfl ?_ ?_ ?_)
                · omega
                · exact H1.out.2.size
                intro v2 w2 ho2 hg2
                have H2 := Lib.hid (And.intro ho2 (H1.out.2.grown hg2 H1.out.2.size (fun k e => (H1.out.1.blk e).1)))
                clear ho2 hg2
                go_wp2_with fail
                go_roundg (j - (q + 1))
                case measure => have := HX.out.1; omega
                case rel => exact ⟨q + 1, q, c, acc ++ [q], by have := HX.out.1; omega, by go_num, rfl, by go_num, H2.out.1, H2.out.2, by rw [List.append_assoc]; exact HE.out, by rw [List.length_append]; simp; omega, by omega, hcR⟩
              · have q0 : ((q : Int) == 0) = false := beq_eq_false_iff_ne.2 (by omega)
                have q1 : decide ((R : Int) < (u : Int) + (c : Int)) = true := decide_eq_true (by omega)
                go_wp2_with fail
                refine (HC.out _).mono ?_
                rintro e w1 ⟨rfl, hb1⟩
                have H1 := Lib.hid (And.intro (HX.out.2.1.below (below_new hb1)) (below_then HX.out.2.2.1 HX.out.2.2.1.size (below_new hb1)))
                clear hb1 p0 p1 p2 p3 p4
                go_wp2_with (at_builtin; refine wpList_appI w1 rfl _ _ 49 rfl w.heap.size 3 ii iz Try.underlying49 hii hiz hi1 hi2 hi3 u11 acc rfl H1.out.1 q _ rfl rfl ?_ ?_ ?_)
                · omega
                · exact H1.out.2.size
                intro v2 w2 ho2 hg2
                have H2 := Lib.hid (And.intro ho2 (H1.out.2.grown hg2 H1.out.2.size (fun k e => (H1.out.1.blk e).1)))
                clear ho2 hg2
                go_wp2_with fail
                go_roundg (j - (q + 1))
                case measure => have := HX.out.1; omega
                case rel => exact ⟨q + 1, q, c, acc ++ [q], by have := HX.out.1; omega, by go_num, rfl, by go_num, H2.out.1, H2.out.2, by rw [List.append_assoc]; exact HE.out, by rw [List.length_append]; simp; omega, by omega, hcR⟩
              · have q0 : ((q : Int) == 0) = false := beq_eq_false_iff_ne.2 (by omega)
                have q1 : decide ((R : Int) < (u : Int) + (c : Int)) = false := decide_eq_false (by omega)
                have q2 : ((q : Int) - (m : Int) == 255) = true := by rw [show (q : Int) - (m : Int) = 255 by omega]; rfl
                go_wp2_with fail
                refine (HC.out _).mono ?_
                rintro e w1 ⟨rfl, hb1⟩
                have H1 := Lib.hid (And.intro (HX.out.2.1.below (below_new hb1)) (below_then HX.out.2.2.1 HX.out.2.2.1.size (below_new hb1)))
                clear hb1 p0 p1 p2 p3 p4
                go_wp2_with (at_builtin; refine wpList_appI w1 rfl _ _ 49 rfl w.heap.size 3 ii iz Try.underlying49 hii hiz hi1 hi2 hi3 u11 acc rfl H1.out.1 q _ rfl rfl ?_ ?_ ?_)
                · omega
                · exact H1.out.2.size
                intro v2 w2 ho2 hg2
                have H2 := Lib.hid (And.intro ho2 (H1.out.2.grown hg2 H1.out.2.size (fun k e => (H1.out.1.blk e).1)))
                clear ho2 hg2
                go_wp2_with fail
                go_roundg (j - (q + 1))
                case measure => have := HX.out.1; omega
                case rel => exact ⟨q + 1, q, c, acc ++ [q], by have := HX.out.1; omega, by go_num, rfl, by go_num, H2.out.1, H2.out.2, by rw [List.append_assoc]; exact HE.out, by rw [List.length_append]; simp; omega, by omega, hcR⟩
            · rw [if_neg hcut] at heq
              have HE := Lib.hid heq
              clear heq
              have h0 : q ≠ 0 := by omega
              have h1 : ¬ R < u + c := by omega
              have h2 : ¬ q - m = 255 := by omega
              have q0 : ((q : Int) == 0) = false := beq_eq_false_iff_ne.2 (by omega)
              have q1 : decide ((R : Int) < (u : Int) + (c : Int)) = false := decide_eq_false (by omega)
              have q2 : ((q : Int) - (m : Int) == 255) = false := beq_eq_false_iff_ne.2 (by omega)
              clear hcut h0 h2
              go_wp2_with fail
              refine (HC.out _).mono ?_
              rintro e w1 ⟨rfl, hb1⟩
              have H1 := Lib.hid (And.intro (HX.out.2.1.below (below_new hb1)) (below_then HX.out.2.2.1 HX.out.2.2.1.size (below_new hb1)))
              clear hb1 p0 p1 p2 p3 p4
              go_wp2_with fail
              go_roundg (j - (q + 1))
              case measure => have := HX.out.1; omega
              case rel => exact ⟨q + 1, m, u + c, acc, by have := HX.out.1; omega, by go_num, rfl, by go_num, H1.out.1, H1.out.2, HE.out, by omega, by omega, by omega⟩
          · obtain rfl : q = j := by have := HX.out.1; omega
            have hge2 : ¬ (q : Int) < (q : Int) := by omega
            have heq := HX.out.2.2.2
            rw [List.drop_of_length_le (by have := H.out.2.1; omega), cutsGo, List.append_nil] at heq
            have HE := Lib.hid heq
            clear heq
            go_wp2_with fail
            go_ret2
            rw [← HRR.out.1, ← HE.out]
            exact ⟨_, rfl, HX.out.2.1, HX.out.2.2.1⟩
end Go.Proofs.Ytckpgbkabbddnaa
