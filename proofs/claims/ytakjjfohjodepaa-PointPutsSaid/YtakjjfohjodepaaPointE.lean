/- Layer 17: the document's Get. -/
import Derived.Test.YtakjjfohjodepaaPointG
import Derived.Test.YtakjjfohjodepaaPointD
import Derived.Test.YtakjjfohjodepaaRefR
import Derived.BigRegion
set_option linter.unusedVariables false
set_option linter.unusedSimpArgs false
namespace Go.Proofs.Ytakjjfohjodepaa
open Go.RowKit

theorem numsOf_doc {xs : List UInt8} (h : 12 ≤ xs.length) : numsOf xs = (leval (xs.take 8), (xs.getD 8 0).toNat, (xs.getD 9 0).toNat, (xs.getD 10 0).toNat + 256 * (xs.getD 11 0).toNat) := by
  have e1 : ∀ j, j < xs.length → xs.drop j = xs.getD j 0 :: xs.drop (j + 1) := fun j hj => by
    rw [List.getD_eq_getElem?_getD, List.getElem?_eq_getElem hj]
    exact List.drop_eq_getElem_cons hj
  unfold numsOf
  rw [e1 8 (by omega), List.drop_succ_cons, List.drop_zero, e1 9 (by omega), List.drop_succ_cons, List.drop_zero, e1 10 (by omega), e1 11 (by omega)]
  simp [leval]

set_option maxRecDepth 100000 in
set_option maxHeartbeats 1000000 in
theorem dGetPoint_any (w : World) (A : Option Addr) (c : Nat) (xs : List UInt8) (hr : RV w A (bv xs)) (hlc : xs.length ≤ c) (hc : c ≤ maxLen) :
    Calls Try.prog 10 #[.slice A xs.length c] w (GetPointEnd w (getPointS xs)) := by
  by_cases h12 : xs.length < 12
  · have hshort : getPointS xs = ((0, 0, 0, 0), 4) := by
      unfold getPointS
      rw [if_pos h12]
    have HS := Lib.hid hshort
    clear hshort
    have hk := Blk.new w 26 #[.int .u64 0, .int .i64 0, .int .i64 0, .int .i64 0]
    have HK := Lib.hid hk
    clear hk hr
    go_enter Try.func10, Try.ntmps10
    go_wp2_with fail
    refine post_cell2 Try.results10 Try.underlying26 rfl _ rfl HK.out (by kernel_rfl) ?_
    rw [HS.out]
    exact ⟨rfl, (Below.refl _ _).alloc (Nat.le_refl _) _⟩
  · have hget : getPointS xs = if mayP (numsOf xs).1 (numsOf xs).2.1 (numsOf xs).2.2.1 (numsOf xs).2.2.2 ∧ xs.length = 12 then (numsOf xs, 0) else ((0, 0, 0, 0), 5) := if_neg h12
    rw [numsOf_doc (by omega)] at hget
    obtain ⟨ad, rfl, hcells⟩ := hr (by rw [bv_length]; omega)
    have hcell : ∀ i, i < 12 → w.cell? (ad.add i) = some (.int .u8 ((xs.getD i 0).toNat : Int)) := fun i hi => hcells i _ (by
      rw [bv_get, List.getElem?_eq_getElem (by omega), List.getD_eq_getElem?_getD, List.getElem?_eq_getElem (by omega)]
      rfl)
    have hadb : ad.block < w.heap.size := hr.lt rfl (by rw [bv_length]; omega)
    have hZ : Blk (w.alloc (.cells #[.int .u64 0, .int .i64 0, .int .i64 0, .int .i64 0] 26)) w.heap.size 26 #[.int .u64 0, .int .i64 0, .int .i64 0, .int .i64 0] := Blk.new _ _ _
    have hZ2 := hZ.alloc (.cells #[.slice (some ad) xs.length c, .bool false] 51)
    have hrd : RdR ((w.alloc (.cells #[.int .u64 0, .int .i64 0, .int .i64 0, .int .i64 0] 26)).alloc (.cells #[.slice (some ad) xs.length c, .bool false] 51)) (w.heap.size + 1) (some ad.block) (some xs) := by
      have hk := Blk.new (w.alloc (.cells #[.int .u64 0, .int .i64 0, .int .i64 0, .int .i64 0] 26)) 51 #[.slice (some ad) xs.length c, .bool false]
      rw [alloc_size] at hk
      exact ⟨by simp; omega, xs, false, some ad, c, hk, (hr.alloc _).alloc _, hlc, hc, fun a e => by injection e with e; rw [e], rfl⟩
    have hcell2 : ∀ i, i < 12 → ((w.alloc (.cells #[.int .u64 0, .int .i64 0, .int .i64 0, .int .i64 0] 26)).alloc (.cells #[.slice (some ad) xs.length c, .bool false] 51)).cell? (ad.add i) = some (.int .u8 ((xs.getD i 0).toNat : Int)) := fun i hi =>
      (World.cell?_of_block (by rw [block_add]; exact (Below.heap_alloc _ _ _ (by rw [alloc_size]; omega)).trans (Below.heap_alloc _ _ _ hadb))).trans (hcell i hi)
    have hB2 : Below w.heap.size w ((w.alloc (.cells #[.int .u64 0, .int .i64 0, .int .i64 0, .int .i64 0] 26)).alloc (.cells #[.slice (some ad) xs.length c, .bool false] 51)) := ((Below.refl _ _).alloc (Nat.le_refl _) _).alloc (by rw [alloc_size]; omega) _
    have t8 := (xs.getD 8 0).toNat_lt
    have t9 := (xs.getD 9 0).toNat_lt
    have t10 := (xs.getD 10 0).toNat_lt
    have t11 := (xs.getD 11 0).toNat_lt
    have hlv := leval_lt64 (xs.take 8) (by rw [List.length_take]; omega)
    have H := Lib.hid (And.intro hget (And.intro hZ2 (And.intro hrd (And.intro hB2 hcell2))))
    clear hget hr hcells hcell hZ hZ2 hrd hB2 hcell2
    unfold maxLen at hc
    go_enter Try.func10, Try.ntmps10
    go_wp2_with fail
    refine (rtake_ok (s := 8) H.out.2.2.1 (.inr (.inr (.inr rfl))) (by omega)).mono ?_
    rintro e w2 ⟨rfl, _, hg2⟩
    have e8 : takeS (some xs) 8 = (leval (xs.take 8), 0, some (xs.drop 8)) := by simp [takeS]; omega
    rw [e8]
    clear e8
    dsimp only
    have hcell3 : ∀ i, i < 12 → w2.cell? (ad.add i) = some (.int .u8 ((xs.getD i 0).toNat : Int)) := fun i hi =>
      (World.cell?_of_block (by rw [block_add]; exact hg2.block _ (by simp; omega) (by simp; omega))).trans (H.out.2.2.2.2 i hi)
    have hZ3 := H.out.2.1.grown hg2 (by simp)
    have hB3 := below_grown H.out.2.2.2.1 hg2 (by simp; omega) (by omega)
    have k8 : w2.cell? ⟨ad.block, ad.off + 8, none⟩ = some (.int .u8 ((xs.getD 8 0).toNat : Int)) := hcell3 8 (by omega)
    have k9 : w2.cell? ⟨ad.block, ad.off + 9, none⟩ = some (.int .u8 ((xs.getD 9 0).toNat : Int)) := hcell3 9 (by omega)
    have k10 : w2.cell? ⟨ad.block, ad.off + 10, none⟩ = some (.int .u8 ((xs.getD 10 0).toNat : Int)) := hcell3 10 (by omega)
    have k11 : w2.cell? ⟨ad.block, ad.off + 11, none⟩ = some (.int .u8 ((xs.getD 11 0).toNat : Int)) := hcell3 11 (by omega)
    have hG := H.out.1
    generalize (xs.getD 8 0).toNat = b8 at *
    generalize (xs.getD 9 0).toNat = b9 at *
    generalize (xs.getD 10 0).toNat = b10 at *
    generalize (xs.getD 11 0).toNat = b11 at *
    generalize leval (xs.take 8) = n0 at *
    have hlt2 : ad.block < w2.heap.size := by have := World.block_lt_of_cell? w2 ⟨ad.block, ad.off + 8, none⟩ k8; exact this
    have hne2 : ad.block ≠ w2.heap.size := by omega
    have HH := Lib.hid (And.intro hG (And.intro hZ3 hB3))
    clear hG hZ3 hB3 hcell3 H hg2
    generalize hL : xs.length = L at *
    have HL := Lib.hid hL
    clear hL
    have i8 : IntKind.i64.wrap (b8 : Int) = (b8 : Int) := IntWalk.i64_in _ (by omega)
    have i9 : IntKind.i64.wrap (b9 : Int) = (b9 : Int) := IntWalk.i64_in _ (by omega)
    have i10 : IntKind.i64.wrap (b10 : Int) = (b10 : Int) := IntWalk.i64_in _ (by omega)
    have i11 : IntKind.i64.wrap (b11 : Int) = (b11 : Int) := IntWalk.i64_in _ (by omega)
    have j11 : IntKind.i64.wrap (256 * (b11 : Int)) = 256 * (b11 : Int) := IntWalk.i64_in _ (by omega)
    have jj : IntKind.i64.wrap ((b10 : Int) + 256 * (b11 : Int)) = ((b10 + 256 * b11 : Nat) : Int) := (IntWalk.i64_in _ (by omega)).trans (by omega)
    have q8 : (8 : Int) < (L : Int) := by omega
    have q9 : (9 : Int) < (L : Int) := by omega
    have q10 : (10 : Int) < (L : Int) := by omega
    have q11 : (11 : Int) < (L : Int) := by omega
    generalize b10 + 256 * b11 = n3 at *
    go_wp2_with fail
    go_region
    have hpw : Blk (w2.alloc (.cells #[.int .u64 (n0 : Int), .int .i64 (b8 : Int), .int .i64 (b9 : Int), .int .i64 (n3 : Int)] 26)).drew w2.heap.size 26 #[.int .u64 (n0 : Int), .int .i64 (b8 : Int), .int .i64 (b9 : Int), .int .i64 (n3 : Int)] := Blk.new _ _ _
    have hzw : Blk (w2.alloc (.cells #[.int .u64 (n0 : Int), .int .i64 (b8 : Int), .int .i64 (b9 : Int), .int .i64 (n3 : Int)] 26)).drew w.heap.size 26 #[.int .u64 0, .int .i64 0, .int .i64 0, .int .i64 0] := HH.out.2.1.alloc _
    have hbw : Below w.heap.size w (w2.alloc (.cells #[.int .u64 (n0 : Int), .int .i64 (b8 : Int), .int .i64 (b9 : Int), .int .i64 (n3 : Int)] 26)).drew := (HH.out.2.2.alloc HH.out.2.2.size _).drew
    generalize (w2.alloc (.cells #[.int .u64 (n0 : Int), .int .i64 (b8 : Int), .int .i64 (b9 : Int), .int .i64 (n3 : Int)] 26)).drew = w3 at *
    have p0 := hpw.cell 0
    have p1 := hpw.cell 1
    have p2 := hpw.cell 2
    have p3 := hpw.cell 3
    simp at p0 p1 p2 p3
    have HW := Lib.hid (And.intro hpw (And.intro hzw hbw))
    clear hpw hzw hbw k8 k9 k10 k11 i8 i9 i10 i11 j11 jj
    go_wp2_with fail
    refine (dMay_any w3 n0 b8 b9 n3 hlv).mono ?_
    rintro e w4 ⟨rfl, hb4⟩
    have hP := HW.out.1.below hb4 HW.out.1.lt
    have hZ := HW.out.2.1.below hb4 HW.out.2.1.lt
    have hB := below_then HW.out.2.2 HW.out.2.2.size hb4
    clear p0 p1 p2 p3
    have p0 := hP.cell 0
    have p1 := hP.cell 1
    have p2 := hP.cell 2
    have p3 := hP.cell 3
    simp at p0 p1 p2 p3
    have f0 := hZ.frozen 0
    have f1 := hZ.frozen 1
    have f2 := hZ.frozen 2
    have f3 := hZ.frozen 3
    have r0 := hZ.cell 0
    have r1 := hZ.cell 1
    have r2 := hZ.cell 2
    have r3 := hZ.cell 3
    simp at r0 r1 r2 r3
    have H3 := Lib.hid (And.intro hB hZ)
    clear hB hZ hP hb4
    by_cases hmay : mayP n0 b8 b9 n3
    · rw [decide_eq_true hmay]
      by_cases hx : L = 12
      · have hres : getPointS xs = ((n0, b8, b9, n3), 0) := by rw [HH.out.1, if_pos ⟨hmay, hx⟩]
        have HRES := Lib.hid hres
        clear hres hmay
        have hd : decide ((12 : Int) < (L : Int)) = false := by simp; omega
        go_wp2_with fail
        refine post_cell2 Try.results10 Try.underlying26 rfl _ rfl (H3.out.2.set4 _ _ _ _) (by kernel_rfl) ?_
        rw [HRES.out]
        exact ⟨rfl, below_set4 H3.out.1 (Nat.le_refl _) _ _ _ _⟩
      · have hres : getPointS xs = ((0, 0, 0, 0), 5) := by rw [HH.out.1, if_neg (fun h => hx h.2)]
        have HRES := Lib.hid hres
        clear hres hmay
        have hd : decide ((12 : Int) < (L : Int)) = true := by simp; omega
        go_wp2_with fail
        refine post_cell2 Try.results10 Try.underlying26 rfl _ rfl (H3.out.2.set4 _ _ _ _) (by kernel_rfl) ?_
        rw [HRES.out]
        exact ⟨rfl, below_set4 H3.out.1 (Nat.le_refl _) _ _ _ _⟩
    · rw [decide_eq_false hmay]
      have hres : getPointS xs = ((0, 0, 0, 0), 5) := by rw [HH.out.1, if_neg (fun h => hmay h.1)]
      have HRES := Lib.hid hres
      clear hres hmay
      go_wp2_with fail
      refine post_cell2 Try.results10 Try.underlying26 rfl _ rfl (H3.out.2.set4 _ _ _ _) (by kernel_rfl) ?_
      rw [HRES.out]
      exact ⟨rfl, below_set4 H3.out.1 (Nat.le_refl _) _ _ _ _⟩
end Go.Proofs.Ytakjjfohjodepaa
