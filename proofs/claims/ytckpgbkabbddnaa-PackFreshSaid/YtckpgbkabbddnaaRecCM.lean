import Derived.Test.YtckpgbkabbddnaaMPlain
import Derived.Test.YtckpgbkabbddnaaMPut
import Derived.Test.YtckpgbkabbddnaaConcatM
set_option linter.unusedVariables false
set_option linter.unusedSimpArgs false
/- Layer 11: contracts of change, body. -/
namespace Go.Proofs.Ytckpgbkabbddnaa
open Go.RowKit

def ChangeEnd (w : World) (r : List UInt8 × Bool) (e : Ending) (w' : World) : Prop :=
  ∃ v, e = .returned (.tuple #[v, .bool r.2]) ∧ OwnB 5 w' w.heap.size v r.1 ∧ Below w.heap.size w w'

/-- Two or three slices laid as a literal. -/
theorem lit2_cells (w : World) (e : TypeId) (A B : Option Addr) (a b : List UInt8) (c d : Nat) (ha : RV w A (bv a)) (hb : RV w B (bv b)) :
    ∀ j l, [a, b][j]? = some l → ∃ A' d', (w.alloc (.cells #[.slice A a.length c, .slice B b.length d] e)).cell? ⟨w.heap.size, j, none⟩ = some (.slice A' l.length d') ∧ RV (w.alloc (.cells #[.slice A a.length c, .slice B b.length d] e)) A' (bv l) := by
  have hk := Blk.new w e #[.slice A a.length c, .slice B b.length d]
  intro j l hl
  match j, hl with
  | 0, hl => cases hl; exact ⟨A, c, hk.cell 0, ha.alloc _⟩
  | 1, hl => cases hl; exact ⟨B, d, hk.cell 1, hb.alloc _⟩
theorem lit3_cells (w : World) (e : TypeId) (A B C : Option Addr) (a b g : List UInt8) (c d f : Nat) (ha : RV w A (bv a)) (hb : RV w B (bv b)) (hg : RV w C (bv g)) :
    ∀ j l, [a, b, g][j]? = some l → ∃ A' d', (w.alloc (.cells #[.slice A a.length c, .slice B b.length d, .slice C g.length f] e)).cell? ⟨w.heap.size, j, none⟩ = some (.slice A' l.length d') ∧ RV (w.alloc (.cells #[.slice A a.length c, .slice B b.length d, .slice C g.length f] e)) A' (bv l) := by
  have hk := Blk.new w e #[.slice A a.length c, .slice B b.length d, .slice C g.length f]
  intro j l hl
  match j, hl with
  | 0, hl => cases hl; exact ⟨A, c, hk.cell 0, ha.alloc _⟩
  | 1, hl => cases hl; exact ⟨B, d, hk.cell 1, hb.alloc _⟩
  | 2, hl => cases hl; exact ⟨C, f, hk.cell 2, hg.alloc _⟩

set_option maxRecDepth 100000 in
set_option maxHeartbeats 1000000 in
theorem change_any (w : World) (k : Ky) (hs : k.name.size ≤ maxLen) (A : Option Addr) (d : Nat) (l : List UInt8) (hr : RV w A (bv l)) (hl : l.length ≤ maxLen) (gone : Bool) :
    Calls Try.prog 60 #[.agg #[.int .i64 k.ino, .int .u8 (k.what.toNat : Int), .string k.name, .int .i64 k.chunk, .slice A l.length d, .bool gone]] w (ChangeEnd w (changeS ⟨k, l, gone⟩)) := by
  have hC := fun w => putKey_any w k hs
  have HC := Lib.hid hC
  clear hC
  obtain ⟨i, a, s, c⟩ := k
  unfold Ky.val at HC
  dsimp only at HC hs ⊢
  have hblk := Blk.new w 53 #[.int .i64 i, .int .u8 (a.toNat : Int), .string s, .int .i64 c, .slice A l.length d, .bool gone]
  have HB := Lib.hid (And.intro hblk hr)
  clear hblk hr
  unfold maxLen at hl
  by_cases hm : mayK ⟨i, a, s, c⟩
  · have hpk : putKeyS ⟨i, a, s, c⟩ = (keyB ⟨i, a, s, c⟩, 0) := if_pos hm
    rw [hpk] at HC
    have hkl := keyB_length hm
    by_cases hv : valOk ⟨⟨i, a, s, c⟩, l, gone⟩
    · have hch : changeS ⟨⟨i, a, s, c⟩, l, gone⟩ = (chgB ⟨⟨i, a, s, c⟩, l, gone⟩, true) := if_pos ⟨hm, hv⟩
      rw [hch]
      unfold chgB
      dsimp only
      generalize keyB ⟨i, a, s, c⟩ = kb at *
      cases gone with
      | true =>
        have h0 : l.length = 0 := hv
        obtain rfl : l = [] := List.eq_nil_of_length_eq_zero h0
        rw [if_pos rfl]
        simp only [List.length_nil] at HB ⊢
        clear hm hch hpk hv h0 hl
        go_enter Try.func60, Try.ntmps60
        go_wp2_with (go_at_call 35; refine (HC.out _).mono ?_; rintro e w1 ⟨v1, rfl, ho1, hb1⟩; obtain ⟨A1, c1, rfl, hrv1, _, _, _⟩ := ho1.slice; have HV := Lib.hid hrv1; clear hrv1; have k0 := HB.out.1.below hb1 HB.out.1.lt; have c4 := k0.cell 4; have c5 := k0.cell 5; simp at c4 c5; have H1 := Lib.hid (And.intro ho1 (And.intro (below_new hb1) (HB.out.2.below (below_new hb1)))); clear hb1 ho1 k0)
        have hL := lit2_cells (w1.alloc (.cells #[.int .u8 0] 5)) 28 (some ⟨w1.heap.size, 0, none⟩) A1 [0] kb 1 c1 (rv_lit1 w1 5 (b := 0) rfl) (HV.out.alloc _)
        rw [alloc_size] at hL
        have HL := Lib.hid hL
        clear hL
        refine (join_any ((w1.alloc (.cells #[.int .u8 0] 5)).alloc (.cells #[.slice (some ⟨w1.heap.size, 0, none⟩) 1 1, .slice A1 kb.length c1] 28)) (w1.heap.size + 1) 2 [[0], kb] 2 rfl (by omega) (by rw [alloc_size, alloc_size]; omega) (by simp; omega) HL.out).mono ?_
        rintro e w2 ⟨v2, rfl, ho2, hb2⟩
        have H2 := Lib.hid (And.intro ho2 (below_new (below_new hb2)))
        clear ho2 hb2
        go_wp2_with fail
        go_ret2
        refine ⟨_, rfl, ?_, below_then H1.out.2.1 H1.out.2.1.size H2.out.2⟩
        have ho := H2.out.1.lower (b := w.heap.size) (by have := H1.out.2.1.size; simp; omega)
        simpa using ho
      | false =>
        have h0 : 1 ≤ l.length ∧ l.length ≤ 255 := hv
        obtain ⟨h0, h1⟩ := h0
        rw [if_neg (by decide)]
        clear hm hch hpk hv hl
        obtain ⟨ll, hll⟩ : ∃ ll, l.length = ll := ⟨_, rfl⟩
        have HLL := Lib.hid hll
        rw [hll] at h0 h1 HB ⊢
        clear hll
        have g0 : ¬ (ll : Int) < 1 := by omega
        have g1 : ¬ 255 < (ll : Int) := by omega
        go_enter Try.func60, Try.ntmps60
        go_wp2_with (go_at_call 35; refine (HC.out _).mono ?_; rintro e w1 ⟨v1, rfl, ho1, hb1⟩; obtain ⟨A1, c1, rfl, hrv1, _, _, _⟩ := ho1.slice; have HV := Lib.hid hrv1; clear hrv1; have k0 := HB.out.1.below hb1 HB.out.1.lt; have c4 := k0.cell 4; have c5 := k0.cell 5; simp at c4 c5; have H1 := Lib.hid (And.intro ho1 (And.intro (below_new hb1) (HB.out.2.below (below_new hb1)))); clear hb1 ho1 k0)
        refine (putRow_at w1 A ll d l HLL.out H1.out.2.2 h1).mono ?_
        rintro e w2 ⟨v2, rfl, ho2, hb2⟩
        obtain ⟨A2, c2, rfl, hrv2, _, _, _⟩ := ho2.slice
        have hL := lit3_cells (w2.alloc (.cells #[.int .u8 1] 5)) 28 (some ⟨w2.heap.size, 0, none⟩) A1 A2 [1] kb (UInt8.ofNat ll :: l) 1 c1 c2 (rv_lit1 w2 5 (b := 1) rfl) ((HV.out.below hb2).alloc _) (hrv2.alloc _)
        rw [alloc_size] at hL
        have hlen2 : (UInt8.ofNat ll :: l).length = ll + 1 := by rw [List.length_cons, HLL.out]
        rw [hlen2] at hL ⊢
        have hres : [[1], kb, UInt8.ofNat ll :: l].flatten = 1 :: (kb ++ UInt8.ofNat ll :: l) := by simp
        have HL := Lib.hid (And.intro hL (And.intro hlen2 (And.intro hres (below_then H1.out.2.1 H1.out.2.1.size hb2))))
        clear hL hrv2 ho2 hb2 hlen2 hres
        generalize hR : UInt8.ofNat ll :: l = R at *
        clear hR
        go_wp2_with fail
        refine (join_any ((w2.alloc (.cells #[.int .u8 1] 5)).alloc (.cells #[.slice (some ⟨w2.heap.size, 0, none⟩) 1 1, .slice A1 kb.length c1, .slice A2 (ll + 1) c2] 28)) (w2.heap.size + 1) 3 [[1], kb, R] 3 rfl (by omega) (by rw [alloc_size, alloc_size]; omega) (by simp [HL.out.2.1]; omega) HL.out.1).mono ?_
        rintro e w3 ⟨v3, rfl, ho3, hb3⟩
        rw [HL.out.2.2.1] at ho3
        have H2 := Lib.hid (And.intro ho3 (below_new (below_new hb3)))
        clear ho3 hb3
        go_wp2_with fail
        go_ret2
        refine ⟨_, rfl, ?_, below_then HL.out.2.2.2 HL.out.2.2.2.size H2.out.2⟩
        exact H2.out.1.lower (by have := HL.out.2.2.2.size; simp; omega)
    · have hch : changeS ⟨⟨i, a, s, c⟩, l, gone⟩ = ([], false) := if_neg (fun h => hv h.2)
      rw [hch]
      cases gone with
      | true =>
        have h0 : 0 < (l.length : Int) := by
          have : ¬ l.length = 0 := hv
          omega
        clear hm hch hpk hv
        go_enter Try.func60, Try.ntmps60
        go_wp2_with (go_at_call 35; refine (HC.out _).mono ?_; rintro e w1 ⟨v1, rfl, ho1, hb1⟩; obtain ⟨A1, c1, rfl, hrv1, _, _, _⟩ := ho1.slice; have HV := Lib.hid hrv1; clear hrv1; have k0 := HB.out.1.below hb1 HB.out.1.lt; have c4 := k0.cell 4; have c5 := k0.cell 5; simp at c4 c5; have H1 := Lib.hid (And.intro ho1 (And.intro (below_new hb1) (HB.out.2.below (below_new hb1)))); clear hb1 ho1 k0)
        go_ret2
        exact ⟨_, rfl, OwnB.nil _ _ _, H1.out.2.1⟩
      | false =>
        have h0 : l.length < 1 ∨ (1 ≤ l.length ∧ 255 < l.length) := by
          have : ¬ (1 ≤ l.length ∧ l.length ≤ 255) := hv
          omega
        clear hm hch hpk hv
        rcases h0 with h0 | ⟨h0, h1⟩
        all_goals
          go_enter Try.func60, Try.ntmps60
          go_wp2_with (go_at_call 35; refine (HC.out _).mono ?_; rintro e w1 ⟨v1, rfl, ho1, hb1⟩; obtain ⟨A1, c1, rfl, hrv1, _, _, _⟩ := ho1.slice; have HV := Lib.hid hrv1; clear hrv1; have k0 := HB.out.1.below hb1 HB.out.1.lt; have c4 := k0.cell 4; have c5 := k0.cell 5; simp at c4 c5; have H1 := Lib.hid (And.intro ho1 (And.intro (below_new hb1) (HB.out.2.below (below_new hb1)))); clear hb1 ho1 k0)
          go_ret2
          exact ⟨_, rfl, OwnB.nil _ _ _, H1.out.2.1⟩
  · have hch : changeS ⟨⟨i, a, s, c⟩, l, gone⟩ = ([], false) := if_neg (fun h => hm h.1)
    have hpk : putKeyS ⟨i, a, s, c⟩ = ([], 2) := if_neg hm
    rw [hch]
    rw [hpk] at HC
    clear hm hch hpk
    go_enter Try.func60, Try.ntmps60
    go_wp2_with (go_at_call 35; refine (HC.out _).mono ?_; rintro e w1 ⟨v1, rfl, ho1, hb1⟩; have H1 := Lib.hid (below_new hb1); clear hb1 ho1)
    go_ret2
    exact ⟨_, rfl, OwnB.nil _ _ _, H1.out⟩
end Go.Proofs.Ytckpgbkabbddnaa
