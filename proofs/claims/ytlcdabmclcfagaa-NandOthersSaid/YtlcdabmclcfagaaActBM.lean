import Derived.Test.YtlcdabmclcfagaaNdMM
import Derived.Test.YtlcdabmclcfagaaNdAM
set_option linter.unusedVariables false
set_option linter.unusedSimpArgs false
/- Layer 3: an act; its bytes: contract. -/
namespace Go.Proofs.Ytlcdabmclcfagaa
open Go.RowKit

/-- What is done to a chip. -/
structure Ac where
  do_ : Int
  block : Int
  page : Int
  fill : UInt8
  bytes : List UInt8
  hits : List Htt
def upF (bs : List UInt8) (f : UInt8) (j : Nat) : List UInt8 := bs.take j ++ List.replicate (j - bs.length) f
def bytesS (x : Ac) (size : Nat) : List UInt8 := if x.fill = 1 then x.bytes else upF x.bytes x.fill size
theorem upF_len (bs : List UInt8) (f : UInt8) (j : Nat) : (upF bs f j).length = j := by
  unfold upF
  rw [List.length_append, List.length_take, List.length_replicate]
  omega
theorem upF_succ (bs : List UInt8) (f : UInt8) (j : Nat) : upF bs f (j + 1) = upF bs f j ++ [(bs[j]?).getD f] := by
  unfold upF
  by_cases h : j < bs.length
  · rw [List.take_add_one, List.getElem?_eq_getElem h, show j + 1 - bs.length = 0 by omega, show j - bs.length = 0 by omega]
    simp
  · rw [List.take_of_length_le (by omega), List.take_of_length_le (by omega), List.getElem?_eq_none (by omega), show j + 1 - bs.length = (j - bs.length) + 1 by omega, List.replicate_succ', List.append_assoc]
    rfl
theorem upF_set (bs : List UInt8) (f : UInt8) {j S : Nat} (h : j < S) (y : UInt8) : (upF bs f j ++ List.replicate (S - j) 0).set j y = upF bs f j ++ y :: List.replicate (S - (j + 1)) 0 := by
  rw [List.set_append_right _ _ (by rw [upF_len]; exact Nat.le_refl _), upF_len, Nat.sub_self, show S - j = (S - (j + 1)) + 1 by omega, List.replicate_succ, List.set_cons_zero]
theorem upF_set2 (bs : List UInt8) (f : UInt8) {j S : Nat} (y z : UInt8) : (upF bs f j ++ y :: List.replicate (S - (j + 1)) 0).set j z = upF bs f j ++ z :: List.replicate (S - (j + 1)) 0 := by
  rw [List.set_append_right _ _ (by rw [upF_len]; exact Nat.le_refl _), upF_len, Nat.sub_self, List.set_cons_zero]
theorem upF_next (bs : List UInt8) (f : UInt8) {j S : Nat} {y : UInt8} (hy : (bs[j]?).getD f = y) : upF bs f j ++ y :: List.replicate (S - (j + 1)) 0 = upF bs f (j + 1) ++ List.replicate (S - (j + 1)) 0 := by
  rw [upF_succ, hy, List.append_assoc]
  rfl
/-- An act's words. -/
def actCells (x : Ac) (Ab : Option Addr) (db : Nat) (Ah : Option Addr) (dh : Nat) : Array Value :=
  #[.int .i64 x.do_, .int .i64 x.block, .int .i64 x.page, .int .u8 (x.fill.toNat : Int), .slice Ab x.bytes.length db, .slice Ah x.hits.length dh]
/-- Where an act's bytes lie: below, or in new memory. -/
def ActBEnd (w : World) (base : Nat) (l : List UInt8) (e : Ending) (w' : World) : Prop :=
  ∃ A d, e = .returned (.slice A l.length d) ∧ RV w' A (bv l) ∧ (∀ ad, A = some ad → 0 < l.length → ad.block < base ∨ w.heap.size ≤ ad.block) ∧ Below w.heap.size w w'
set_option maxRecDepth 100000 in
set_option maxHeartbeats 2000000 in
theorem act_bytes (w : World) (base : Nat) (x : Ac) (Ab : Option Addr) (db : Nat) (Ah : Option Addr) (dh : Nat) (S : Nat) (hS : S ≤ 256) (hr : RV w Ab (bv x.bytes)) (hl : ∀ ad, Ab = some ad → 0 < x.bytes.length → ad.block < base) (hm : x.bytes.length ≤ 140737488355328) :
    Calls Try.prog 23 #[.agg (actCells x Ab db Ah dh), .int .i64 (S : Int)] w (ActBEnd w base (bytesS x S)) := by
  obtain ⟨dd, bb, pp, ff, bs, hh⟩ := x
  unfold actCells
  dsimp only at hr hl hm ⊢
  have hbw := (Below.refl w.heap.size w).alloc (Nat.le_refl _) (.cells #[.int .i64 dd, .int .i64 bb, .int .i64 pp, .int .u8 (ff.toNat : Int), .slice Ab bs.length db, .slice Ah hh.length dh] 49)
  have hBK := Blk.new w 49 #[.int .i64 dd, .int .i64 bb, .int .i64 pp, .int .u8 (ff.toNat : Int), .slice Ab bs.length db, .slice Ah hh.length dh]
  generalize hh.length = nh at *
  by_cases hf : ff = 1
  · subst hf
    have HB := Lib.hid (And.intro hbw (And.intro hr hl))
    have q3 := hBK.cell 3
    have q4 := hBK.cell 4
    simp at q3 q4
    have hbs : bytesS ⟨dd, bb, pp, 1, bs, hh⟩ S = bs := if_pos rfl
    rw [hbs]
    clear hbw hr hl hBK hbs
    go_enter Try.func23, Try.ntmps23
    go_wp2_with fail
    go_ret
    exact ⟨Ab, db, rfl, HB.out.2.1.below HB.out.1, fun ad h1 h2 => .inl (HB.out.2.2 ad h1 h2), HB.out.1⟩
  · have hf1 : ((ff.toNat : Int) == 1) = false := by
      rw [beq_eq_false_iff_ne]
      intro h
      apply hf
      apply UInt8.toNat.inj
      show ff.toNat = 1
      omega
    have hbs : bytesS ⟨dd, bb, pp, ff, bs, hh⟩ S = upF bs ff S := if_neg hf
    rw [hbs]
    have HMB := make_bytes (P := Try.prog) 22 5 Try.underlying22 u8info S (by omega)
    have hrow := RowB.made (w.alloc (.cells #[.int .i64 dd, .int .i64 bb, .int .i64 pp, .int .u8 (ff.toNat : Int), .slice Ab bs.length db, .slice Ah nh dh] 49)) 5 S
    rw [alloc_sz] at hrow
    have hbm := (Below.refl (w.alloc (.cells #[.int .i64 dd, .int .i64 bb, .int .i64 pp, .int .u8 (ff.toNat : Int), .slice Ab bs.length db, .slice Ah nh dh] 49)).heap.size (w.alloc (.cells #[.int .i64 dd, .int .i64 bb, .int .i64 pp, .int .u8 (ff.toNat : Int), .slice Ab bs.length db, .slice Ah nh dh] 49))).alloc (Nat.le_refl _) (.cells (madeCells #[.int .u8 0] S) 5)
    have hBK2 := hBK.below hbm hBK.lt
    have hbw2 := below_then hbw hbw.size hbm
    have hr2 := hr.below hbw2
    have hrl := fun ad (hA : Ab = some ad) (h0 : 0 < bs.length) => hr.lt hA (by rwa [bv_length])
    have HW := Lib.hid (And.intro hrow (And.intro hBK2 (And.intro hbw2 (And.intro hr2 hrl))))
    have q3 := hBK.cell 3
    simp at q3
    clear hrow hbm hBK2 hbw2 hbw hr hl hBK hr2 hf hbs
    go_enter Try.func23, Try.ntmps23
    go_wp2_with fail
    clear HMB q3
    generalize (w.alloc (.cells #[.int .i64 dd, .int .i64 bb, .int .i64 pp, .int .u8 (ff.toNat : Int), .slice Ab bs.length db, .slice Ah nh dh] 49)).alloc (.cells (madeCells #[.int .u8 0] S) 5) = wm at *
    go_loopg [6] S (fun k i wr => ∃ j : Nat, j + k = S ∧ i = .int .i64 j ∧ RowB 5 wr (w.heap.size + 1) (upF bs ff j ++ List.replicate (S - j) 0) ∧ wm.grownBy wr (some (w.heap.size + 1)))
    case atStart => exact ⟨0, by omega, rfl, by simpa [upF] using HW.out.1, World.grownBy.refl _ _⟩
    case round =>
      obtain ⟨j, hj, rfl, hrw, hg⟩ := hrel
      have HX := Lib.hid (And.intro hj (And.intro hrw hg))
      have hbkr : Blk wr w.heap.size 49 _ := HW.out.2.1.grown hg (fun e => by injection e with e; omega)
      have q3 := hbkr.cell 3
      have q4 := hbkr.cell 4
      simp at q3 q4
      have hrr : RV wr Ab (bv bs) := HW.out.2.2.2.1.keep fun ad hA hn => hg.block _ (HW.out.2.2.2.1.lt hA hn) (fun e => by
        injection e with e
        have h1 := HW.out.2.2.2.2 ad hA (by rwa [bv_length] at hn)
        omega)
      have hbw := HW.out.2.2.1.grown hg HW.out.2.2.1.size (fun k e => by injection e with e; omega)
      clear hj
      by_cases hlt : j < S
      · have hltI : (j : Int) < (S : Int) := by omega
        have hjw : IntKind.i64.wrap ((j : Int) + 1) = (j : Int) + 1 := IntWalk.i64_in _ (by omega)
        obtain ⟨y, hyj⟩ : ∃ y, (upF bs ff j ++ List.replicate (S - j) (0 : UInt8))[j]? = some y := ⟨_, List.getElem?_eq_getElem (by rw [List.length_append, upF_len, List.length_replicate]; omega)⟩
        have hy0 := hrw.cell hyj
        have hfz := hrw.frozen j
        have hrw1 := hrw.set j ff
        rw [upF_set bs ff hlt] at hrw1
        have hg1 := grown_trans hg (grown_setCell wr (w.heap.size + 1) j (.int .u8 (ff.toNat : Int)))
        have hfz1 := hrw1.frozen j
        have hy1 : (wr.setCell ⟨w.heap.size + 1, j, none⟩ (.int .u8 (ff.toNat : Int))).cell? ⟨w.heap.size + 1, j, none⟩ = some (.int .u8 (ff.toNat : Int)) := hrw1.cell (by rw [List.getElem?_append_right (by rw [upF_len]; exact Nat.le_refl _), upF_len, Nat.sub_self]; rfl)
        by_cases hjb : j < bs.length
        · have t2 : decide ((j : Int) < (bs.length : Int)) = true := decide_eq_true (by omega)
          have hjbI : (j : Int) < (bs.length : Int) := by omega
          obtain ⟨z, hz⟩ : ∃ z, bs[j]? = some z := ⟨_, List.getElem?_eq_getElem hjb⟩
          obtain ⟨ad, rfl, hca⟩ := hrr (by rw [bv_length]; omega)
          have hz0 := hca j (.int .u8 (z.toNat : Int)) (by rw [bv_get, hz]; rfl)
          have hne : (ad.add j).block ≠ w.heap.size + 1 := by
            have h1 := HW.out.2.2.2.2 ad rfl (by omega)
            rw [block_add]
            omega
          have hz1 : (wr.setCell ⟨w.heap.size + 1, j, none⟩ (.int .u8 (ff.toNat : Int))).cell? (ad.add j) = some (.int .u8 (z.toNat : Int)) := (World.cell?_of_block (Below.heap_setCell _ _ _ _ hne)).trans hz0
          have hrw2 := hrw1.set j z
          rw [upF_set2, upF_next bs ff (by rw [hz]; rfl)] at hrw2
          have HN := Lib.hid (And.intro hrw2 (grown_trans hg1 (grown_setCell _ (w.heap.size + 1) j (.int .u8 (z.toNat : Int)))))
          clear hrw hg hrr hbw hyj hrw1 hg1 hca hrw2 hz
          generalize bs.length = nb at *
          go_wp2_with fail
          go_roundg (S - (j + 1))
          case measure => have := HX.out.1; omega
          case rel =>
            obtain ⟨e1, e2⟩ := HN.out
            exact ⟨j + 1, by have := HX.out.1; omega, by go_num, e1, e2⟩
        · have t2 : decide ((j : Int) < (bs.length : Int)) = false := decide_eq_false (by omega)
          have hjbI : ¬ (j : Int) < (bs.length : Int) := by omega
          rw [upF_next bs ff (by rw [List.getElem?_eq_none (by omega)]; rfl)] at hrw1
          have HN := Lib.hid (And.intro hrw1 hg1)
          clear hrw hg hrr hbw hyj hrw1 hg1
          generalize bs.length = nb at *
          go_wp2_with fail
          go_roundg (S - (j + 1))
          case measure => have := HX.out.1; omega
          case rel =>
            obtain ⟨e1, e2⟩ := HN.out
            exact ⟨j + 1, by have := HX.out.1; omega, by go_num, e1, e2⟩
      · obtain rfl : j = S := by have := HX.out.1; omega
        have hge : ¬ (j : Int) < (j : Int) := by omega
        rw [Nat.sub_self, List.replicate_zero, List.append_nil] at hrw
        have HN := Lib.hid (And.intro hrw hbw)
        clear hrw hg hrr hbw q3 q4
        go_wp2_with fail
        go_ret
        refine ⟨some ⟨w.heap.size + 1, 0, none⟩, j, by rw [upF_len]; rfl, HN.out.1.rv, fun ad h1 _ => .inr ?_, HN.out.2⟩
        injection h1 with h1
        subst h1
        exact Nat.le_succ _
end Go.Proofs.Ytlcdabmclcfagaa
