/- Layer 17: the document's May and Put. -/
import Derived.Test.YtakjjfohjodepaaPointP
import Derived.Test.YtakjjfohjodepaaSealF
import Derived.Test.YtakjjfohjodepaaRef
set_option linter.unusedVariables false
set_option linter.unusedSimpArgs false
namespace Go.Proofs.Ytakjjfohjodepaa
open Go.RowKit

theorem dMay_any (w : World) (n : Nat) (b p c : Int) (hn : n < 18446744073709551616) :
    Calls Try.prog 23 #[.agg #[.int .u64 (n : Int), .int .i64 b, .int .i64 p, .int .i64 c]] w fun e w' => e = .returned (.bool (decide (mayP n b p c))) ∧ Below w.heap.size w w' := by
  go_enter Try.func23, Try.ntmps23
  go_wp2_with fail
  all_goals
    go_ret
    refine ⟨ret_bool ?_, (Below.refl _ _).alloc (Nat.le_refl _) _⟩
    first
      | exact (decide_eq_false (by unfold mayP; simp at *; omega)).symm
      | exact (decide_eq_true (by unfold mayP; simp at *; omega)).symm
      | (rcases Decidable.em (p = 0) with hp | hp <;> rcases Decidable.em (c = 0) with hc | hc <;> rcases Decidable.em (b = 0) with hb | hb <;> first | (simp_all [mayP]; done) | (simp_all [mayP]; omega) | (exfalso; simp_all; done) | (exfalso; simp_all; omega) | (rw [bne_iff_ne.2 hp]; exact (decide_eq_true (by unfold mayP; omega)).symm))

theorem pointB_split (n b p c : Nat) (hb : b ≤ 255) (hp : p ≤ 255) (hc : c ≤ 65535) : digs n 8 ++ [UInt8.ofNat b, UInt8.ofNat p, UInt8.ofNat (c % 256), UInt8.ofNat (c / 256)] = pointB n b p c := by
  have e1 : ∀ m : Nat, digs m 1 = [UInt8.ofNat m] := fun m => by simp [digs, List.range_succ]
  have e2 : UInt8.ofNat (c % 256) = UInt8.ofNat c := by apply UInt8.toNat.inj; simp
  simp only [pointB, laidS, List.flatMap_cons, List.flatMap_nil, e1, digs2, Int.toNat_natCast, e2]
  rfl

theorem rv_lit4 (w : World) (e : TypeId) (a b c d : Nat) (ha : a < 256) (hb : b < 256) (hc : c < 256) (hd : d < 256) :
    RV (w.alloc (.cells #[.int .u8 (a : Int), .int .u8 (b : Int), .int .u8 (c : Int), .int .u8 (d : Int)] e)) (some ⟨w.heap.size, 0, none⟩) (bv [UInt8.ofNat a, UInt8.ofNat b, UInt8.ofNat c, UInt8.ofNat d]) := by
  have h := RowB.new w e [UInt8.ofNat a, UInt8.ofNat b, UInt8.ofNat c, UInt8.ofNat d]
  have e1 : (bv [UInt8.ofNat a, UInt8.ofNat b, UInt8.ofNat c, UInt8.ofNat d]).toArray = #[.int .u8 (a : Int), .int .u8 (b : Int), .int .u8 (c : Int), .int .u8 (d : Int)] := by
    simp [bv]
    omega
  rw [e1] at h
  exact h.rv

set_option maxRecDepth 100000 in
set_option maxHeartbeats 1000000 in
theorem dPutPoint_any (w : World) (s : Int) (n : Nat) (b p c : Int) (hn : n < 18446744073709551616) :
    Calls Try.prog 16 #[.int .i64 s, .agg #[.int .u64 (n : Int), .int .i64 b, .int .i64 p, .int .i64 c]] w (PutPageEnd w (putPointS s n b p c)) := by
  by_cases h : mayP n b p c
  · have hd : decide (mayP n b p c) = true := decide_eq_true h
    have hs : putPointS s n b p c = putPageS s 6 (pointB n b p c) := if_pos h
    obtain ⟨h1, h2, h3, h4, h5, h6, h7, _⟩ := h
    obtain ⟨b, rfl⟩ : ∃ m : Nat, b = m := ⟨b.toNat, by omega⟩
    obtain ⟨p, rfl⟩ : ∃ m : Nat, p = m := ⟨p.toNat, by omega⟩
    obtain ⟨c, rfl⟩ : ∃ m : Nat, c = m := ⟨c.toNat, by omega⟩
    have H := Lib.hid (And.intro hd hs)
    clear hd hs
    go_enter Try.func16, Try.ntmps16
    go_wp2_with (go_at_call 23; refine (dMay_any _ n b p c hn).mono ?_; rintro e w1 ⟨rfl, hb1⟩; rw [H.out.1]; have k0 := (Blk.new w 26 #[.int .u64 (n : Int), .int .i64 (b : Int), .int .i64 (p : Int), .int .i64 (c : Int)]).below hb1 (by simp); have c0 := k0.cell 0; simp at c0; have H1 := Lib.hid (And.intro hb1 k0); clear hb1 k0)
    refine (rput_any w1 n 8 (.inr (.inr (.inr rfl))) hn).mono ?_
    rintro e w2 ⟨hb2, h2' | h2'⟩
    · obtain ⟨_, v2, rfl, ho2⟩ := h2'
      have k2 := H1.out.2.below hb2 H1.out.2.lt
      have c1 := k2.cell 1
      have c2 := k2.cell 2
      have c3 := k2.cell 3
      simp at c1 c2 c3
      have hbw := below_then (below_new H1.out.1) (below_new H1.out.1).size hb2
      have hlen := digs_length n 8
      generalize hds : digs n 8 = D at *
      have H2 := Lib.hid (And.intro ho2 (And.intro hbw (And.intro hlen hds)))
      have hsz1 := (below_new H1.out.1).size
      have hsz2 := hb2.size
      clear k2 ho2 hb2 hbw hlen hds c0
      have hm1 : Int.tmod (c : Int) 256 = ((c % 256 : Nat) : Int) := by rw [Int.tmod_eq_emod_of_nonneg (by omega)]; simp
      have hm2 : Int.tdiv (c : Int) 256 = ((c / 256 : Nat) : Int) := by rw [Int.tdiv_eq_ediv_of_nonneg (by omega)]; simp
      have hm3 : c % 256 < 256 := by omega
      have hm4 : c / 256 < 256 := by omega
      generalize hc1 : c % 256 = cl at *
      generalize hc2 : c / 256 = ch at *
      have hrv := rv_lit4 w2 5 b p cl ch (by omega) (by omega) hm3 hm4
      have hspl := pointB_split n b p c (by omega) (by omega) (by omega)
      rw [H2.out.2.2.2, hc1, hc2] at hspl
      have hown2 := H2.out.1.below ((Below.refl _ _).alloc (Nat.le_refl _) (.cells #[.int .u8 (b : Int), .int .u8 (p : Int), .int .u8 (cl : Int), .int .u8 (ch : Int)] 5))
      have HV := Lib.hid (And.intro hrv (And.intro hspl hown2))
      have hD : D.length = 8 := H2.out.2.2.1
      clear hrv hspl hown2
      go_wp2_with (at_builtin; refine wpList_appB _ rfl _ _ 22 rfl w1.heap.size 5 Try.underlying22 u8info v2 D rfl HV.out.2.2 _ 4 4 [UInt8.ofNat b, UInt8.ofNat p, UInt8.ofNat cl, UInt8.ofNat ch] rfl rfl HV.out.1 ?_ ?_ ?_)
      · simp [hD]
      · simp; omega
      intro v3 w3 ho3 hg3 hv3
      rw [HV.out.2.1] at ho3
      have hb3 : Below w.heap.size w w3 := (H2.out.2.1.alloc H2.out.2.1.size _).grown hg3 (by simp; omega) fun k e => by have := (H2.out.1.blk e).1; omega
      obtain ⟨A3, d3, rfl, hrv3, hl3, hm3', _⟩ := ho3.slice
      have hlen := pointB_length n b p c
      generalize pointB n b p c = body at *
      have H3 := Lib.hid (And.intro hb3 (And.intro hrv3 (And.intro hl3 (And.intro hm3' hlen))))
      clear hb3 hrv3 hl3 hm3' hlen ho3 hg3 hv3
      go_wp2_with fail
      refine (dPut_any w3 s 6 A3 d3 body H3.out.2.1 (Nat.le_trans H3.out.2.2.1 H3.out.2.2.2.1)).mono ?_
      rintro e w4 ⟨v4, rfl, ho4, hb4⟩
      rw [← H.out.2] at ho4 ⊢
      have H4 := Lib.hid (And.intro ho4 hb4)
      clear ho4 hb4
      go_wp2_with fail
      go_ret2
      exact ⟨_, rfl, H4.out.1.lower H3.out.1.size, below_then H3.out.1 H3.out.1.size H4.out.2⟩
    · exfalso
      have := h2'.1
      have e8 : (256 : Nat) ^ 8 = 18446744073709551616 := by decide
      omega
  · have hd : decide (mayP n b p c) = false := decide_eq_false h
    have hs : putPointS s n b p c = ([], 2) := if_neg h
    have H := Lib.hid (And.intro hd hs)
    clear hd hs h
    go_enter Try.func16, Try.ntmps16
    go_wp2_with (go_at_call 23; refine (dMay_any _ n b p c hn).mono ?_; rintro e w1 ⟨rfl, hb1⟩; rw [H.out.1]; have H1 := Lib.hid hb1; clear hb1)
    go_ret2
    rw [H.out.2]
    exact ⟨_, rfl, OwnB.nil _ _ _, below_new H1.out⟩
end Go.Proofs.Ytakjjfohjodepaa
