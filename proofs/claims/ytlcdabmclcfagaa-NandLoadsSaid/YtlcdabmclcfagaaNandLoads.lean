/- NandLoads: the walk. -/
import Derived.Test.YtlcdabmclcfagaaWorks03
import Derived.Test.YtlcdabmclcfagaaNdL
import Derived.Test.YtlcdabmclcfagaaRfL
import Derived.Test.YtlcdabmclcfagaaPrS
set_option linter.unusedVariables false
set_option linter.unusedSimpArgs false
namespace Go.Proofs.Ytlcdabmclcfagaa
open Go.RowKit

set_option maxRecDepth 100000 in
set_option maxHeartbeats 1000000 in
theorem walkNandLoads (w : World) (A : Option Addr) (c : Nat) (xs : List UInt8) (hr : RV w A (bv xs)) (hR : xs.length ≤ 140737488351232) (Bd : Option Addr) (d : Nat) (bad : List Int) (hb : RV w Bd (bad.map (Value.int .i64))) (hw : ∀ n ∈ bad, (Lit.int .i64 n).wf = true) (hR1 : bad.length * 8 ≤ 140737488351232) (more : Bool) :
    Calls Try.prog 9 #[.slice A xs.length c, .slice Bd bad.length d, .bool more] w fun e w' => e = .returned (.bool true) ∧ Below w.heap.size w w' := by
  have hmk := make_bytes (P := Try.prog) 22 5 Try.underlying22 u8info 4096 (by decide)
  have hmk2 : ∀ W : World, (Instr.makeSlice 22 (.int .i64 4096) (.int .i64 4096)).run Try.prog W = .ok (.slice (some ⟨W.heap.size, 0, none⟩) 4096 4096) (W.alloc (.cells (madeCells #[.int .u8 0] 4096) 5)) := hmk
  obtain ⟨m, hm⟩ : ∃ m, bad.length = m := ⟨_, rfl⟩
  have HR := Lib.hid (And.intro hr (And.intro hm (And.intro hb (show m ≤ 140737488355328 by omega))))
  rw [hm]
  clear hmk hr hb hw hm hR1
  go_enter Try.func9, Try.ntmps9
  go_wp2_with fail
  refine (small_any w).mono ?_
  rintro e w1 ⟨rfl, hb1⟩
  have H1 := Lib.hid hb1
  clear hb1
  have hgeo := Blk.new w1 28 #[.int .i64 8, .int .i64 4, .int .i64 128, .int .i64 0]
  have hs2 := alloc_sz w1 (.cells #[.int .i64 8, .int .i64 4, .int .i64 128, .int .i64 0] 28)
  have hbg := (Below.refl w1.heap.size w1).alloc (Nat.le_refl _) (.cells #[.int .i64 8, .int .i64 4, .int .i64 128, .int .i64 0] 28)
  have hrow := RowB.made (w1.alloc (.cells #[.int .i64 8, .int .i64 4, .int .i64 128, .int .i64 0] 28)) 5 4096
  have hbm := (Below.refl (w1.alloc (.cells #[.int .i64 8, .int .i64 4, .int .i64 128, .int .i64 0] 28)).heap.size (w1.alloc (.cells #[.int .i64 8, .int .i64 4, .int .i64 128, .int .i64 0] 28))).alloc (Nat.le_refl _) (.cells (madeCells #[.int .u8 0] 4096) 5)
  have hgeo2 := hgeo.below hbm hgeo.lt
  have hball := below_then (below_then H1.out H1.out.size hbg) (below_then H1.out H1.out.size hbg).size hbm
  rw [hs2] at hrow
  have HW := Lib.hid (And.intro hrow (And.intro hgeo2 (And.intro hs2 hball)))
  clear hgeo hs2 hbg hrow hbm hgeo2 hball
  go_wp2_with fail
  generalize (w1.alloc (.cells #[.int .i64 8, .int .i64 4, .int .i64 128, .int .i64 0] 28)).alloc (.cells (madeCells #[.int .u8 0] 4096) 5) = wm at *
  go_loopg [10] 4096 (fun k i wr => ∃ j : Nat, j + k = 4096 ∧ i = .int .i64 j ∧ ∃ ws : List UInt8, ws.length = 4096 ∧ RowB 5 wr (w1.heap.size + 1) ws ∧ wm.grownBy wr (some (w1.heap.size + 1)))
  case atStart => exact ⟨0, rfl, rfl, _, List.length_replicate, HW.out.1, ⟨rfl, rfl, rfl, Nat.le_refl _, fun _ _ _ => rfl⟩⟩
  case round =>
    obtain ⟨j, hj, rfl, ws, hws, hrw, hg⟩ := hrel
    have HJ := Lib.hid (And.intro hj (And.intro hws (And.intro hrw hg)))
    by_cases hlt : j < 4096
    · have hltI : (j : Int) < 4096 := by omega
      have t1 : decide ((j : Int) < 4096) = true := decide_eq_true hltI
      by_cases hx : 0 < xs.length
      · have hxI : (0 : Int) < (xs.length : Int) := by omega
        have t2 : decide ((0 : Int) < (xs.length : Int)) = true := decide_eq_true hxI
        have hmod : j % xs.length < xs.length := Nat.mod_lt _ hx
        have hbr : Below w.heap.size w wr := HW.out.2.2.2.grown hg HW.out.2.2.2.size (fun k e => by injection e with e; have := H1.out.size; omega)
        obtain ⟨bd, rfl, hcx⟩ := (HR.out.1.below hbr).at_ (k := j % xs.length) (by rw [bv_length]; exact hmod)
        have ebm : (bv xs)[j % xs.length]'(by rw [bv_length]; exact hmod) = .int .u8 (xs[j % xs.length].toNat : Int) := by simp [bv]
        rw [ebm] at hcx
        clear ebm hbr
        generalize xs[j % xs.length] = y at hcx
        have hfz := hrw.frozen j
        have hcell := hrw.cell (j := j) (List.getElem?_eq_getElem (show j < ws.length by rw [hws]; exact hlt))
        generalize ((ws[j]'(by rw [hws]; exact hlt)).toNat : Int) = z at hcell
        have hrem : Int.tmod (j : Int) (xs.length : Int) = ((j % xs.length : Nat) : Int) := by rw [Int.tmod_eq_emod_of_nonneg (by omega)]; simp
        have hmodI : ((j % xs.length : Nat) : Int) < (xs.length : Int) := by omega
        have hwrap : IntKind.i64.wrap ((j % xs.length : Nat) : Int) = ((j % xs.length : Nat) : Int) := IntWalk.i64_in _ (by omega)
        have hjw : IntKind.i64.wrap ((j : Int) + 1) = (j : Int) + 1 := IntWalk.i64_in _ (by omega)
        have hxne : ¬ (xs.length : Int) = 0 := by omega
        have HST := Lib.hid (show RowB 5 (wr.setCell ⟨w1.heap.size + 1, j, none⟩ (.int .u8 (y.toNat : Int))) (w1.heap.size + 1) (ws.set j y) ∧ wm.grownBy (wr.setCell ⟨w1.heap.size + 1, j, none⟩ (.int .u8 (y.toNat : Int))) (some (w1.heap.size + 1)) from ⟨hrw.set j y, grown_then hg (grown_setCell _ _ _ _)⟩)
        generalize j % xs.length = q at *
        clear hmod hj hrw hg
        generalize xs.length = n at *
        go_wp2_with fail
        go_roundg (4096 - (j + 1))
        case measure => have := HJ.out.1; omega
        case rel => exact ⟨j + 1, by have := HJ.out.1; omega, by go_num, ws.set j y, by rw [List.length_set]; exact hws, HST.out.1, HST.out.2⟩
      · have hxI : ¬ (0 : Int) < (xs.length : Int) := by omega
        have t2 : decide ((0 : Int) < (xs.length : Int)) = false := decide_eq_false hxI
        clear hj hws hrw hg
        generalize xs.length = n at *
        have hbr : Below w.heap.size w wr := HW.out.2.2.2.grown HJ.out.2.2.2 HW.out.2.2.2.size (fun k e => by injection e with e; have := H1.out.size; omega)
        have hge : Blk wr w1.heap.size 28 #[.int .i64 8, .int .i64 4, .int .i64 128, .int .i64 0] := HW.out.2.1.grown HJ.out.2.2.2 (fun e => by injection e with e; omega)
        have HE := Lib.hid (And.intro hbr hge)
        clear hbr hge
        cases more with
        | false =>
          obtain ⟨ys, hys⟩ : ∃ ys, ys = ws := ⟨_, rfl⟩
          have HT := Lib.hid (show ys.length = 4096 ∧ RV wr (some ⟨w1.heap.size + 1, 0, none⟩) (bv ys) ∧ 4096 ≤ 4096 ∧ 4096 ≤ maxLen ∧ w1.heap.size + 1 < wr.heap.size ∧ Below w.heap.size w wr ∧ Blk wr w1.heap.size 28 #[.int .i64 8, .int .i64 4, .int .i64 128, .int .i64 0] from by
            rw [hys]
            exact ⟨HJ.out.2.1, HJ.out.2.2.1.rv, Nat.le_refl _, by decide, HJ.out.2.2.1.lt, HE.out.1, HE.out.2⟩)
          clear hys
          obtain ⟨d0, d1, d2, d3⟩ : wr.cell? ⟨w1.heap.size, 0, none⟩ = some (.int .i64 8) ∧ wr.cell? ⟨w1.heap.size, 1, none⟩ = some (.int .i64 4) ∧ wr.cell? ⟨w1.heap.size, 2, none⟩ = some (.int .i64 128) ∧ wr.cell? ⟨w1.heap.size, 3, none⟩ = some (.int .i64 0) := ⟨HT.out.2.2.2.2.2.2.cell 0, HT.out.2.2.2.2.2.2.cell 1, HT.out.2.2.2.2.2.2.cell 2, HT.out.2.2.2.2.2.2.cell 3⟩
          have HL1 := Lib.hid (load_any wr (w1.heap.size + 1) 4096 4096 ys HT.out.1 HT.out.2.1 HT.out.2.2.1 HT.out.2.2.2.1 Bd m d bad HR.out.2.1 (HR.out.2.2.1.below HT.out.2.2.2.2.2.1) HR.out.2.2.2)
          go_wp2_with fail
          refine HL1.out.mono ?_
          rintro e wa ⟨hba, hna, hsa⟩
          have HA := Lib.hid (And.intro hba (And.intro (HT.out.2.2.2.2.2.2.below hba HT.out.2.2.2.2.2.2.lt) (And.intro (below_then HT.out.2.2.2.2.2.1 HT.out.2.2.2.2.2.1.size hba) (HT.out.2.1.below hba))))
          have hgaa : (w1.heap.size + 1) < wa.heap.size := Nat.lt_of_lt_of_le HT.out.2.2.2.2.1 hba.size
          have HL2 := Lib.hid (rload_any wa (w1.heap.size + 1) 4096 4096 ys HT.out.1 HA.out.2.2.2 hgaa Bd m d bad HR.out.2.1 (HR.out.2.2.1.below HA.out.2.2.1) HR.out.2.2.2)
          clear d0 d1 d2 d3 hba HL1 hgaa
          obtain ⟨d0, d1, d2, d3⟩ : wa.cell? ⟨w1.heap.size, 0, none⟩ = some (.int .i64 8) ∧ wa.cell? ⟨w1.heap.size, 1, none⟩ = some (.int .i64 4) ∧ wa.cell? ⟨w1.heap.size, 2, none⟩ = some (.int .i64 128) ∧ wa.cell? ⟨w1.heap.size, 3, none⟩ = some (.int .i64 0) := ⟨HA.out.2.1.cell 0, HA.out.2.1.cell 1, HA.out.2.1.cell 2, HA.out.2.1.cell 3⟩
          cases hl : loadS ys bad with
          | none =>
            obtain rfl := hna hl
            clear hna hsa
            go_wp2_with fail
            refine HL2.out.mono ?_
            rintro e wb ⟨hbb, hnb, -⟩
            obtain rfl := hnb hl
            have HB := Lib.hid (below_then HA.out.2.2.1 HA.out.2.2.1.size hbb)
            clear hbb hnb HL2 hl d0 d1 d2 d3
            go_wp2_with fail
            refine (works_any wb).mono ?_
            rintro e wc ⟨rfl, hbc⟩
            have HC := Lib.hid (below_then HB.out HB.out.size hbc)
            clear hbc
            go_wp2_with fail
            go_ret
            exact ⟨rfl, HC.out⟩
          | some cp =>
            obtain ⟨ga2, rfl, hpc⟩ := hsa cp hl
            clear hna hsa
            have HPC := Lib.hid hpc
            clear hpc
            go_wp2_with fail
            refine HL2.out.mono ?_
            rintro e wb ⟨hbb, -, hsb⟩
            obtain ⟨gr2, rfl, hrc⟩ := hsb cp hl
            have hbp := Blk.new wb 52 #[.pointer (some ⟨ga2, 0, none⟩), .pointer (some ⟨gr2, 0, none⟩)]
            have hbx := (Below.refl wb.heap.size wb).alloc (Nat.le_refl _) (.cells #[.pointer (some ⟨ga2, 0, none⟩), .pointer (some ⟨gr2, 0, none⟩)] 52)
            have HPS := Lib.hid (psame_any ((HPC.out.below hbb).below hbx) (hrc.below hbx) (hbp.cell 0) (hbp.cell 1))
            have HB := Lib.hid (below_then (below_then HA.out.2.2.1 HA.out.2.2.1.size hbb) (below_then HA.out.2.2.1 HA.out.2.2.1.size hbb).size hbx)
            clear hbb hsb hrc hbp hbx HL2 hl d0 d1 d2 d3
            go_wp2_with fail
            refine HPS.out.mono ?_
            rintro e wd ⟨rfl, hbd⟩
            have HD := Lib.hid (below_then HB.out HB.out.size hbd)
            clear hbd
            go_wp2_with fail
            refine (works_any wd).mono ?_
            rintro e wc ⟨rfl, hbc⟩
            have HC := Lib.hid (below_then HD.out HD.out.size hbc)
            clear hbc
            go_wp2_with fail
            go_ret
            exact ⟨rfl, HC.out⟩
        | true =>
          have hone : RowB 5 (wr.alloc (.cells #[.int .u8 1] 5)) wr.heap.size [1] := RowB.new wr 5 [1]
          have hbo := (Below.refl wr.heap.size wr).alloc (Nat.le_refl _) (.cells #[.int .u8 1] 5)
          have how := OwnB.whole (e := 5) (base := w.heap.size) (w := wr.alloc (.cells #[.int .u8 1] 5)) (show w.heap.size ≤ w1.heap.size + 1 by have := H1.out.size; omega) (HJ.out.2.2.1.alloc _) (by rw [HJ.out.2.1]; decide)
          rw [HJ.out.2.1] at how
          have HO := Lib.hid (And.intro how (And.intro hone.rv (And.intro hbo HE.out)))
          clear how hone hbo
          have hwl := HJ.out.2.1
          go_wp2_with (with_reducible refine wpList_appB _ rfl (.tmp 48) (.tmp 49) 22 rfl w.heap.size 5 Try.underlying22 u8info (.slice (some ⟨w1.heap.size + 1, 0, none⟩) 4096 4096) ws rfl HO.out.1 (some ⟨wr.heap.size, 0, none⟩) 1 1 [1] rfl rfl HO.out.2.1 ?_ ?_ ?_)
          · have := HE.out.1.size; omega
          intro v5 w5 ho5 hg50 _
          have hg5 : (wr.alloc (.cells #[.int .u8 1] 5)).grownBy w5 (some (w1.heap.size + 1)) := hg50
          clear hg50
          obtain ⟨g5, full, rfl, hg, hrow, htk, hm⟩ := own_some ho5 (by simp)
          have hlen : (ws ++ [(1 : UInt8)]).length = 4097 := by rw [List.length_append, hwl]; rfl
          have hb5 : Below w.heap.size w w5 := (below_then HE.out.1 HE.out.1.size HO.out.2.2.1).grown hg5 (below_then HE.out.1 HE.out.1.size HO.out.2.2.1).size (fun k e => by injection e with e; have := H1.out.size; omega)
          have hge5 : Blk w5 w1.heap.size 28 #[.int .i64 8, .int .i64 4, .int .i64 128, .int .i64 0] := (HE.out.2.alloc _).grown hg5 (fun e => by injection e with e; omega)
          obtain ⟨ys, hys⟩ : ∃ ys, ys = ws ++ [(1 : UInt8)] := ⟨_, rfl⟩
          have HT := Lib.hid (show ys.length = 4097 ∧ RV w5 (some ⟨g5, 0, none⟩) (bv ys) ∧ 4097 ≤ full.length ∧ full.length ≤ maxLen ∧ g5 < w5.heap.size ∧ Below w.heap.size w w5 ∧ Blk w5 w1.heap.size 28 #[.int .i64 8, .int .i64 4, .int .i64 128, .int .i64 0] from by
            rw [hys]
            refine ⟨hlen, ?_, ?_, hm, hrow.lt, hb5, hge5⟩
            · have := hrow.rv.take (ws ++ [(1 : UInt8)]).length
              rwa [← bv_take, htk] at this
            · rw [← hlen]
              exact OwnB.len (g := g5) htk)
          rw [hlen]
          generalize full.length = fl at *
          clear ho5 hg5 hg hrow htk hm hb5 hge5 hys hlen HO
          obtain ⟨d0, d1, d2, d3⟩ : w5.cell? ⟨w1.heap.size, 0, none⟩ = some (.int .i64 8) ∧ w5.cell? ⟨w1.heap.size, 1, none⟩ = some (.int .i64 4) ∧ w5.cell? ⟨w1.heap.size, 2, none⟩ = some (.int .i64 128) ∧ w5.cell? ⟨w1.heap.size, 3, none⟩ = some (.int .i64 0) := ⟨HT.out.2.2.2.2.2.2.cell 0, HT.out.2.2.2.2.2.2.cell 1, HT.out.2.2.2.2.2.2.cell 2, HT.out.2.2.2.2.2.2.cell 3⟩
          have HL1 := Lib.hid (load_any w5 g5 4097 fl ys HT.out.1 HT.out.2.1 HT.out.2.2.1 HT.out.2.2.2.1 Bd m d bad HR.out.2.1 (HR.out.2.2.1.below HT.out.2.2.2.2.2.1) HR.out.2.2.2)
          go_wp2_with fail
          refine HL1.out.mono ?_
          rintro e wa ⟨hba, hna, hsa⟩
          have HA := Lib.hid (And.intro hba (And.intro (HT.out.2.2.2.2.2.2.below hba HT.out.2.2.2.2.2.2.lt) (And.intro (below_then HT.out.2.2.2.2.2.1 HT.out.2.2.2.2.2.1.size hba) (HT.out.2.1.below hba))))
          have hgaa : g5 < wa.heap.size := Nat.lt_of_lt_of_le HT.out.2.2.2.2.1 hba.size
          have HL2 := Lib.hid (rload_any wa g5 4097 fl ys HT.out.1 HA.out.2.2.2 hgaa Bd m d bad HR.out.2.1 (HR.out.2.2.1.below HA.out.2.2.1) HR.out.2.2.2)
          clear d0 d1 d2 d3 hba HL1 hgaa
          obtain ⟨d0, d1, d2, d3⟩ : wa.cell? ⟨w1.heap.size, 0, none⟩ = some (.int .i64 8) ∧ wa.cell? ⟨w1.heap.size, 1, none⟩ = some (.int .i64 4) ∧ wa.cell? ⟨w1.heap.size, 2, none⟩ = some (.int .i64 128) ∧ wa.cell? ⟨w1.heap.size, 3, none⟩ = some (.int .i64 0) := ⟨HA.out.2.1.cell 0, HA.out.2.1.cell 1, HA.out.2.1.cell 2, HA.out.2.1.cell 3⟩
          cases hl : loadS ys bad with
          | none =>
            obtain rfl := hna hl
            clear hna hsa
            go_wp2_with fail
            refine HL2.out.mono ?_
            rintro e wb ⟨hbb, hnb, -⟩
            obtain rfl := hnb hl
            have HB := Lib.hid (below_then HA.out.2.2.1 HA.out.2.2.1.size hbb)
            clear hbb hnb HL2 hl d0 d1 d2 d3
            go_wp2_with fail
            refine (works_any wb).mono ?_
            rintro e wc ⟨rfl, hbc⟩
            have HC := Lib.hid (below_then HB.out HB.out.size hbc)
            clear hbc
            go_wp2_with fail
            go_ret
            exact ⟨rfl, HC.out⟩
          | some cp =>
            obtain ⟨ga2, rfl, hpc⟩ := hsa cp hl
            clear hna hsa
            have HPC := Lib.hid hpc
            clear hpc
            go_wp2_with fail
            refine HL2.out.mono ?_
            rintro e wb ⟨hbb, -, hsb⟩
            obtain ⟨gr2, rfl, hrc⟩ := hsb cp hl
            have hbp := Blk.new wb 52 #[.pointer (some ⟨ga2, 0, none⟩), .pointer (some ⟨gr2, 0, none⟩)]
            have hbx := (Below.refl wb.heap.size wb).alloc (Nat.le_refl _) (.cells #[.pointer (some ⟨ga2, 0, none⟩), .pointer (some ⟨gr2, 0, none⟩)] 52)
            have HPS := Lib.hid (psame_any ((HPC.out.below hbb).below hbx) (hrc.below hbx) (hbp.cell 0) (hbp.cell 1))
            have HB := Lib.hid (below_then (below_then HA.out.2.2.1 HA.out.2.2.1.size hbb) (below_then HA.out.2.2.1 HA.out.2.2.1.size hbb).size hbx)
            clear hbb hsb hrc hbp hbx HL2 hl d0 d1 d2 d3
            go_wp2_with fail
            refine HPS.out.mono ?_
            rintro e wd ⟨rfl, hbd⟩
            have HD := Lib.hid (below_then HB.out HB.out.size hbd)
            clear hbd
            go_wp2_with fail
            refine (works_any wd).mono ?_
            rintro e wc ⟨rfl, hbc⟩
            have HC := Lib.hid (below_then HD.out HD.out.size hbc)
            clear hbc
            go_wp2_with fail
            go_ret
            exact ⟨rfl, HC.out⟩
    · have hj8 : j = 4096 := by omega
      subst hj8
      have hge8 : ¬ ((4096 : Nat) : Int) < 4096 := by omega
      clear hj hws hrw hg
      have hbr : Below w.heap.size w wr := HW.out.2.2.2.grown HJ.out.2.2.2 HW.out.2.2.2.size (fun k e => by injection e with e; have := H1.out.size; omega)
      have hge : Blk wr w1.heap.size 28 #[.int .i64 8, .int .i64 4, .int .i64 128, .int .i64 0] := HW.out.2.1.grown HJ.out.2.2.2 (fun e => by injection e with e; omega)
      have HE := Lib.hid (And.intro hbr hge)
      clear hbr hge
      cases more with
      | false =>
        obtain ⟨ys, hys⟩ : ∃ ys, ys = ws := ⟨_, rfl⟩
        have HT := Lib.hid (show ys.length = 4096 ∧ RV wr (some ⟨w1.heap.size + 1, 0, none⟩) (bv ys) ∧ 4096 ≤ 4096 ∧ 4096 ≤ maxLen ∧ w1.heap.size + 1 < wr.heap.size ∧ Below w.heap.size w wr ∧ Blk wr w1.heap.size 28 #[.int .i64 8, .int .i64 4, .int .i64 128, .int .i64 0] from by
          rw [hys]
          exact ⟨HJ.out.2.1, HJ.out.2.2.1.rv, Nat.le_refl _, by decide, HJ.out.2.2.1.lt, HE.out.1, HE.out.2⟩)
        clear hys
        obtain ⟨d0, d1, d2, d3⟩ : wr.cell? ⟨w1.heap.size, 0, none⟩ = some (.int .i64 8) ∧ wr.cell? ⟨w1.heap.size, 1, none⟩ = some (.int .i64 4) ∧ wr.cell? ⟨w1.heap.size, 2, none⟩ = some (.int .i64 128) ∧ wr.cell? ⟨w1.heap.size, 3, none⟩ = some (.int .i64 0) := ⟨HT.out.2.2.2.2.2.2.cell 0, HT.out.2.2.2.2.2.2.cell 1, HT.out.2.2.2.2.2.2.cell 2, HT.out.2.2.2.2.2.2.cell 3⟩
        have HL1 := Lib.hid (load_any wr (w1.heap.size + 1) 4096 4096 ys HT.out.1 HT.out.2.1 HT.out.2.2.1 HT.out.2.2.2.1 Bd m d bad HR.out.2.1 (HR.out.2.2.1.below HT.out.2.2.2.2.2.1) HR.out.2.2.2)
        go_wp2_with fail
        refine HL1.out.mono ?_
        rintro e wa ⟨hba, hna, hsa⟩
        have HA := Lib.hid (And.intro hba (And.intro (HT.out.2.2.2.2.2.2.below hba HT.out.2.2.2.2.2.2.lt) (And.intro (below_then HT.out.2.2.2.2.2.1 HT.out.2.2.2.2.2.1.size hba) (HT.out.2.1.below hba))))
        have hgaa : (w1.heap.size + 1) < wa.heap.size := Nat.lt_of_lt_of_le HT.out.2.2.2.2.1 hba.size
        have HL2 := Lib.hid (rload_any wa (w1.heap.size + 1) 4096 4096 ys HT.out.1 HA.out.2.2.2 hgaa Bd m d bad HR.out.2.1 (HR.out.2.2.1.below HA.out.2.2.1) HR.out.2.2.2)
        clear d0 d1 d2 d3 hba HL1 hgaa
        obtain ⟨d0, d1, d2, d3⟩ : wa.cell? ⟨w1.heap.size, 0, none⟩ = some (.int .i64 8) ∧ wa.cell? ⟨w1.heap.size, 1, none⟩ = some (.int .i64 4) ∧ wa.cell? ⟨w1.heap.size, 2, none⟩ = some (.int .i64 128) ∧ wa.cell? ⟨w1.heap.size, 3, none⟩ = some (.int .i64 0) := ⟨HA.out.2.1.cell 0, HA.out.2.1.cell 1, HA.out.2.1.cell 2, HA.out.2.1.cell 3⟩
        cases hl : loadS ys bad with
        | none =>
          obtain rfl := hna hl
          clear hna hsa
          go_wp2_with fail
          refine HL2.out.mono ?_
          rintro e wb ⟨hbb, hnb, -⟩
          obtain rfl := hnb hl
          have HB := Lib.hid (below_then HA.out.2.2.1 HA.out.2.2.1.size hbb)
          clear hbb hnb HL2 hl d0 d1 d2 d3
          go_wp2_with fail
          refine (works_any wb).mono ?_
          rintro e wc ⟨rfl, hbc⟩
          have HC := Lib.hid (below_then HB.out HB.out.size hbc)
          clear hbc
          go_wp2_with fail
          go_ret
          exact ⟨rfl, HC.out⟩
        | some cp =>
          obtain ⟨ga2, rfl, hpc⟩ := hsa cp hl
          clear hna hsa
          have HPC := Lib.hid hpc
          clear hpc
          go_wp2_with fail
          refine HL2.out.mono ?_
          rintro e wb ⟨hbb, -, hsb⟩
          obtain ⟨gr2, rfl, hrc⟩ := hsb cp hl
          have hbp := Blk.new wb 52 #[.pointer (some ⟨ga2, 0, none⟩), .pointer (some ⟨gr2, 0, none⟩)]
          have hbx := (Below.refl wb.heap.size wb).alloc (Nat.le_refl _) (.cells #[.pointer (some ⟨ga2, 0, none⟩), .pointer (some ⟨gr2, 0, none⟩)] 52)
          have HPS := Lib.hid (psame_any ((HPC.out.below hbb).below hbx) (hrc.below hbx) (hbp.cell 0) (hbp.cell 1))
          have HB := Lib.hid (below_then (below_then HA.out.2.2.1 HA.out.2.2.1.size hbb) (below_then HA.out.2.2.1 HA.out.2.2.1.size hbb).size hbx)
          clear hbb hsb hrc hbp hbx HL2 hl d0 d1 d2 d3
          go_wp2_with fail
          refine HPS.out.mono ?_
          rintro e wd ⟨rfl, hbd⟩
          have HD := Lib.hid (below_then HB.out HB.out.size hbd)
          clear hbd
          go_wp2_with fail
          refine (works_any wd).mono ?_
          rintro e wc ⟨rfl, hbc⟩
          have HC := Lib.hid (below_then HD.out HD.out.size hbc)
          clear hbc
          go_wp2_with fail
          go_ret
          exact ⟨rfl, HC.out⟩
      | true =>
        have hone : RowB 5 (wr.alloc (.cells #[.int .u8 1] 5)) wr.heap.size [1] := RowB.new wr 5 [1]
        have hbo := (Below.refl wr.heap.size wr).alloc (Nat.le_refl _) (.cells #[.int .u8 1] 5)
        have how := OwnB.whole (e := 5) (base := w.heap.size) (w := wr.alloc (.cells #[.int .u8 1] 5)) (show w.heap.size ≤ w1.heap.size + 1 by have := H1.out.size; omega) (HJ.out.2.2.1.alloc _) (by rw [HJ.out.2.1]; decide)
        rw [HJ.out.2.1] at how
        have HO := Lib.hid (And.intro how (And.intro hone.rv (And.intro hbo HE.out)))
        clear how hone hbo
        have hwl := HJ.out.2.1
        go_wp2_with (with_reducible refine wpList_appB _ rfl (.tmp 48) (.tmp 49) 22 rfl w.heap.size 5 Try.underlying22 u8info (.slice (some ⟨w1.heap.size + 1, 0, none⟩) 4096 4096) ws rfl HO.out.1 (some ⟨wr.heap.size, 0, none⟩) 1 1 [1] rfl rfl HO.out.2.1 ?_ ?_ ?_)
        · have := HE.out.1.size; omega
        intro v5 w5 ho5 hg50 _
        have hg5 : (wr.alloc (.cells #[.int .u8 1] 5)).grownBy w5 (some (w1.heap.size + 1)) := hg50
        clear hg50
        obtain ⟨g5, full, rfl, hg, hrow, htk, hm⟩ := own_some ho5 (by simp)
        have hlen : (ws ++ [(1 : UInt8)]).length = 4097 := by rw [List.length_append, hwl]; rfl
        have hb5 : Below w.heap.size w w5 := (below_then HE.out.1 HE.out.1.size HO.out.2.2.1).grown hg5 (below_then HE.out.1 HE.out.1.size HO.out.2.2.1).size (fun k e => by injection e with e; have := H1.out.size; omega)
        have hge5 : Blk w5 w1.heap.size 28 #[.int .i64 8, .int .i64 4, .int .i64 128, .int .i64 0] := (HE.out.2.alloc _).grown hg5 (fun e => by injection e with e; omega)
        obtain ⟨ys, hys⟩ : ∃ ys, ys = ws ++ [(1 : UInt8)] := ⟨_, rfl⟩
        have HT := Lib.hid (show ys.length = 4097 ∧ RV w5 (some ⟨g5, 0, none⟩) (bv ys) ∧ 4097 ≤ full.length ∧ full.length ≤ maxLen ∧ g5 < w5.heap.size ∧ Below w.heap.size w w5 ∧ Blk w5 w1.heap.size 28 #[.int .i64 8, .int .i64 4, .int .i64 128, .int .i64 0] from by
          rw [hys]
          refine ⟨hlen, ?_, ?_, hm, hrow.lt, hb5, hge5⟩
          · have := hrow.rv.take (ws ++ [(1 : UInt8)]).length
            rwa [← bv_take, htk] at this
          · rw [← hlen]
            exact OwnB.len (g := g5) htk)
        rw [hlen]
        generalize full.length = fl at *
        clear ho5 hg5 hg hrow htk hm hb5 hge5 hys hlen HO
        obtain ⟨d0, d1, d2, d3⟩ : w5.cell? ⟨w1.heap.size, 0, none⟩ = some (.int .i64 8) ∧ w5.cell? ⟨w1.heap.size, 1, none⟩ = some (.int .i64 4) ∧ w5.cell? ⟨w1.heap.size, 2, none⟩ = some (.int .i64 128) ∧ w5.cell? ⟨w1.heap.size, 3, none⟩ = some (.int .i64 0) := ⟨HT.out.2.2.2.2.2.2.cell 0, HT.out.2.2.2.2.2.2.cell 1, HT.out.2.2.2.2.2.2.cell 2, HT.out.2.2.2.2.2.2.cell 3⟩
        have HL1 := Lib.hid (load_any w5 g5 4097 fl ys HT.out.1 HT.out.2.1 HT.out.2.2.1 HT.out.2.2.2.1 Bd m d bad HR.out.2.1 (HR.out.2.2.1.below HT.out.2.2.2.2.2.1) HR.out.2.2.2)
        go_wp2_with fail
        refine HL1.out.mono ?_
        rintro e wa ⟨hba, hna, hsa⟩
        have HA := Lib.hid (And.intro hba (And.intro (HT.out.2.2.2.2.2.2.below hba HT.out.2.2.2.2.2.2.lt) (And.intro (below_then HT.out.2.2.2.2.2.1 HT.out.2.2.2.2.2.1.size hba) (HT.out.2.1.below hba))))
        have hgaa : g5 < wa.heap.size := Nat.lt_of_lt_of_le HT.out.2.2.2.2.1 hba.size
        have HL2 := Lib.hid (rload_any wa g5 4097 fl ys HT.out.1 HA.out.2.2.2 hgaa Bd m d bad HR.out.2.1 (HR.out.2.2.1.below HA.out.2.2.1) HR.out.2.2.2)
        clear d0 d1 d2 d3 hba HL1 hgaa
        obtain ⟨d0, d1, d2, d3⟩ : wa.cell? ⟨w1.heap.size, 0, none⟩ = some (.int .i64 8) ∧ wa.cell? ⟨w1.heap.size, 1, none⟩ = some (.int .i64 4) ∧ wa.cell? ⟨w1.heap.size, 2, none⟩ = some (.int .i64 128) ∧ wa.cell? ⟨w1.heap.size, 3, none⟩ = some (.int .i64 0) := ⟨HA.out.2.1.cell 0, HA.out.2.1.cell 1, HA.out.2.1.cell 2, HA.out.2.1.cell 3⟩
        cases hl : loadS ys bad with
        | none =>
          obtain rfl := hna hl
          clear hna hsa
          go_wp2_with fail
          refine HL2.out.mono ?_
          rintro e wb ⟨hbb, hnb, -⟩
          obtain rfl := hnb hl
          have HB := Lib.hid (below_then HA.out.2.2.1 HA.out.2.2.1.size hbb)
          clear hbb hnb HL2 hl d0 d1 d2 d3
          go_wp2_with fail
          refine (works_any wb).mono ?_
          rintro e wc ⟨rfl, hbc⟩
          have HC := Lib.hid (below_then HB.out HB.out.size hbc)
          clear hbc
          go_wp2_with fail
          go_ret
          exact ⟨rfl, HC.out⟩
        | some cp =>
          obtain ⟨ga2, rfl, hpc⟩ := hsa cp hl
          clear hna hsa
          have HPC := Lib.hid hpc
          clear hpc
          go_wp2_with fail
          refine HL2.out.mono ?_
          rintro e wb ⟨hbb, -, hsb⟩
          obtain ⟨gr2, rfl, hrc⟩ := hsb cp hl
          have hbp := Blk.new wb 52 #[.pointer (some ⟨ga2, 0, none⟩), .pointer (some ⟨gr2, 0, none⟩)]
          have hbx := (Below.refl wb.heap.size wb).alloc (Nat.le_refl _) (.cells #[.pointer (some ⟨ga2, 0, none⟩), .pointer (some ⟨gr2, 0, none⟩)] 52)
          have HPS := Lib.hid (psame_any ((HPC.out.below hbb).below hbx) (hrc.below hbx) (hbp.cell 0) (hbp.cell 1))
          have HB := Lib.hid (below_then (below_then HA.out.2.2.1 HA.out.2.2.1.size hbb) (below_then HA.out.2.2.1 HA.out.2.2.1.size hbb).size hbx)
          clear hbb hsb hrc hbp hbx HL2 hl d0 d1 d2 d3
          go_wp2_with fail
          refine HPS.out.mono ?_
          rintro e wd ⟨rfl, hbd⟩
          have HD := Lib.hid (below_then HB.out HB.out.size hbd)
          clear hbd
          go_wp2_with fail
          refine (works_any wd).mono ?_
          rintro e wc ⟨rfl, hbc⟩
          have HC := Lib.hid (below_then HD.out HD.out.size hbc)
          clear hbc
          go_wp2_with fail
          go_ret
          exact ⟨rfl, HC.out⟩
end Go.Proofs.Ytlcdabmclcfagaa
