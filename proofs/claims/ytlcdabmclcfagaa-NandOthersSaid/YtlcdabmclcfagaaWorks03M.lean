import Derived.Test.YtlcdabmclcfagaaNdNM
import Derived.Test.YtlcdabmclcfagaaNdWM
import Derived.Test.YtlcdabmclcfagaaNdRM
import Derived.Test.YtlcdabmclcfagaaOwnKM
set_option linter.unusedVariables false
set_option linter.unusedSimpArgs false
/- works (layer 3): a chip that the document tells. -/
namespace Go.Proofs.Ytlcdabmclcfagaa
open Go.RowKit

/-- A chip that is the call's own. -/
def CP (w W : World) (g : Nat) (c : Chp) : Prop := ∃ F, PC W F g c ∧ (∀ k, F k → w.heap.size ≤ k) ∧ Below w.heap.size w W
theorem CP.below' {w W W' : World} {g : Nat} {c : Chp} (h : CP w W g c) (hb : Below W.heap.size W W') : CP w W' g c := by
  obtain ⟨F, h1, h2, h3⟩ := h
  exact ⟨F, h1.below hb, h2, below_then h3 h3.size hb⟩
theorem CP.bel {w W : World} {g : Nat} {c : Chp} (h : CP w W g c) : Below w.heap.size w W := h.choose_spec.2.2
theorem cp_prog {w W W1 : World} {g : Nat} {c : Chp} (h : CP w W g c) (hb : Below W.heap.size W W1) (b p : Int) (A : Option Addr) (n d : Nat) (xs : List UInt8) (hn : xs.length = n) (hr : RV W1 A (bv xs)) (hA : ∀ ad, A = some ad → 0 < n → W.heap.size ≤ ad.block) :
    Calls Try.prog 12 #[.pointer (some ⟨g, 0, none⟩), .int .i64 b, .int .i64 p, .slice A n d] W1 fun e w' => e = .returned (.int .i64 ((programS c b p xs).2 : Int)) ∧ CP w w' g (programS c b p xs).1 := by
  obtain ⟨F, h1, h2, h3⟩ := h
  have hlt := h1.lt
  obtain ⟨L, h4⟩ := h1.below hb
  refine (program_pc h4 b p A n d xs hn hr fun ad he h0 hF => ?_).mono ?_
  · have := hlt _ hF
    have := hA ad he h0
    omega
  rintro e w' ⟨he, hp, ht⟩
  exact ⟨he, F, hp, h2, (below_then h3 h3.size hb).trans (ht.below h2 (Nat.le_trans h3.size hb.size))⟩
theorem cp_erase {w W : World} {g : Nat} {c : Chp} (h : CP w W g c) (b : Int) :
    Calls Try.prog 16 #[.pointer (some ⟨g, 0, none⟩), .int .i64 b] W fun e w' => e = .returned (.int .i64 ((eraseS c b).2 : Int)) ∧ CP w w' g (eraseS c b).1 := by
  obtain ⟨F, ⟨L, h1⟩, h2, h3⟩ := h
  refine (erase_pc h1 b).mono ?_
  rintro e w' ⟨he, hp, ht⟩
  exact ⟨he, F, hp, h2, h3.trans (ht.below h2 h3.size)⟩
theorem cp_hits {w W W1 : World} {g : Nat} {c : Chp} (h : CP w W g c) (hb : Below W.heap.size W W1) (A : Option Addr) (n d : Nat) (l : List Htt) (hl : HitsP W1 (fun k => W.heap.size ≤ k) A l) (hn : l.length = n) (hm : n * 40 ≤ 140737488351232) (hmk : ∀ x ∈ l, x.mask.length ≤ 140737488351232) :
    Calls Try.prog 15 #[.pointer (some ⟨g, 0, none⟩), .slice A n d] W1 fun e w' => e = .returned (.int .i64 ((hitsS c l).2 : Int)) ∧ CP w w' g (hitsS c l).1 := by
  obtain ⟨F, h1, h2, h3⟩ := h
  have hlt := h1.lt
  obtain ⟨L, h4⟩ := h1.below hb
  have hw1 := Nat.le_trans h3.size hb.size
  refine (hits_pc h4 A n d l (hl.keep (fun _ _ _ => rfl) fun k hk _ hF => ?_) hn hm hmk).mono ?_
  · have := hlt _ hF
    omega
  rintro e w' ⟨he, hp, ht⟩
  refine ⟨he, _, hp, ?_, (below_then h3 h3.size hb).trans (ht.below h2 hw1)⟩
  rintro k (hk | hk)
  · exact h2 k hk
  · omega
theorem cp_power {w W : World} {g : Nat} {c : Chp} (h : CP w W g c) :
    Calls Try.prog 18 #[.pointer (some ⟨g, 0, none⟩)] W fun e w' => ∃ g', e = .returned (.tuple #[.pointer (some ⟨g', 0, none⟩), .int .i64 0]) ∧ CP w w' g' (powerS c) := by
  obtain ⟨F, ⟨L, h1⟩, h2, h3⟩ := h
  refine (power_pc h1).mono ?_
  rintro e w' ⟨g', he, hp, hb⟩
  exact ⟨g', he, _, hp, fun k hk => Nat.le_trans h3.size hk.1, below_then h3 h3.size hb⟩
theorem cp_read {w W : World} {g : Nat} {c : Chp} (h : CP w W g c) (b p : Int) :
    Calls Try.prog 13 #[.pointer (some ⟨g, 0, none⟩), .int .i64 b, .int .i64 p] W fun e w' => ∃ v, e = .returned (.tuple #[v, .int .i64 ((readS c b p).2 : Int)]) ∧ OwnB 5 w' W.heap.size v (readS c b p).1 ∧ CP w w' g c := by
  have h0 := h
  obtain ⟨F, ⟨L, h1⟩, h2, h3⟩ := h
  refine (read_pc h1 b p).mono ?_
  rintro e w' ⟨v, he, ho, hb⟩
  exact ⟨v, he, ho, h0.below' hb⟩

set_option maxRecDepth 100000 in
theorem small_any (w : World) : Calls Try.prog 11 #[] w fun e w' => e = .returned (.agg #[.int .i64 8, .int .i64 4, .int .i64 128, .int .i64 0]) ∧ Below w.heap.size w w' := by
  go_enter Try.func11, Try.ntmps11
  go_wp2_with fail
  refine post_cell1 Try.results11 Try.underlying28 rfl #[.int .i64 8, .int .i64 4, .int .i64 128, .int .i64 0] rfl (g := w.heap.size) (t := 28) (Blk.new w 28 _) (by kernel_rfl) ?_
  exact ⟨rfl, ((Below.refl _ _).alloc (Nat.le_refl _) _)⟩
set_option maxRecDepth 100000 in
theorem noughts_any3 (w : World) : Calls Try.prog 46 #[] w fun e w' => e = .returned (.slice (some ⟨w.heap.size, 0, none⟩) 128 128) ∧ RV w' (some ⟨w.heap.size, 0, none⟩) (bv (List.replicate 128 0)) ∧ Below w.heap.size w w' := by
  have hmk := make_bytes (P := Try.prog) 22 5 Try.underlying22 u8info 128 (by decide)
  have hmk2 : ∀ W : World, (Instr.makeSlice 22 (.int .i64 128) (.int .i64 128)).run Try.prog W = .ok (.slice (some ⟨W.heap.size, 0, none⟩) 128 128) (W.alloc (.cells (madeCells #[.int .u8 0] 128) 5)) := hmk
  have HR := Lib.hid (And.intro (RowB.made w 5 128).rv ((Below.refl w.heap.size w).alloc (Nat.le_refl _) (.cells (madeCells #[.int .u8 0] 128) 5)))
  clear hmk
  go_enter Try.func46, Try.ntmps46
  go_wp2_with fail
  go_ret
  exact ⟨rfl, HR.out⟩

def zs : List UInt8 := List.replicate 128 0
def k0 : Chp := newS 8 4 128 0
def k1 : Chp := (programS k0 0 1 zs).1
def k2 : Chp := (programS k1 0 0 zs).1
def k3 : Chp := (programS k2 0 2 zs).1
def k4 : Chp := (eraseS k3 0).1
def k5 : Chp := (hitsS k4 [⟨0, false, [1]⟩]).1
def k6 : Chp := (programS k5 0 0 zs).1
theorem chain : (programS k0 0 1 zs).2 = 0 ∧ (programS k1 0 0 zs).2 = 8 ∧ (programS k2 0 2 zs).2 = 0 ∧ (eraseS k3 0).2 = 0 ∧ (hitsS k4 [⟨0, false, [1]⟩]).2 = 0 ∧ (programS k5 0 0 zs).2 = 10 ∧ readS (powerS k6) 0 0 = (List.replicate 128 254, 0) := by decide +kernel
theorem hits_lit (w : World) : HitsP ((w.alloc (.cells #[.int .u8 1] 5)).alloc (.cells #[.int .i64 0, .bool false, .slice (some ⟨w.heap.size, 0, none⟩) 1 1] 36)) (fun k => w.heap.size ≤ k) (some ⟨w.heap.size + 1, 0, none⟩) [⟨0, false, [1]⟩] := by
  have hs : (w.alloc (.cells #[.int .u8 1] 5)).heap.size = w.heap.size + 1 := alloc_sz _ _
  have hB := Blk.new (w.alloc (.cells #[.int .u8 1] 5)) 36 #[.int .i64 0, .bool false, .slice (some ⟨w.heap.size, 0, none⟩) 1 1]
  rw [hs] at hB
  have hR := ((RowB.new w 5 [1]).alloc (.cells #[.int .i64 0, .bool false, .slice (some ⟨w.heap.size, 0, none⟩) 1 1] 36)).rv
  intro i h hi
  match i, hi with
  | 0, hi =>
    obtain rfl : (⟨0, false, [1]⟩ : Htt) = h := by simpa using hi
    exact ⟨_, _, 1, rfl, Nat.le_succ _, hB.cell 0, hB.cell 1, hB.cell 2, hR, fun bd hb _ => by injection hb with hb; subst hb; exact Nat.le_refl _, Nat.le_refl _, by decide⟩
  | i + 1, hi => simp at hi
set_option maxRecDepth 100000 in
set_option maxHeartbeats 2000000 in
theorem works_any (w : World) : Calls Try.prog 20 #[] w fun e w' => e = .returned (.bool true) ∧ Below w.heap.size w w' := by
  have HC := Lib.hid chain
  have hz : zs.length = 128 := rfl
  go_enter Try.func20, Try.ntmps20
  go_wp2_with fail
  refine (small_any w).mono ?_
  rintro e w1 ⟨rfl, hb1⟩
  have H1 := Lib.hid hb1
  clear hb1
  go_wp2_with fail
  refine (new_any w1 8 4 128 0).mono ?_
  rintro e w2 ⟨hb2, -, hm2⟩
  obtain ⟨g, rfl, hp2⟩ := hm2 (by decide)
  have hc2 : CP w w2 g k0 := ⟨_, hp2, fun k hk => Nat.le_trans H1.out.size hk.1, below_then H1.out H1.out.size hb2⟩
  have H2 := Lib.hid hc2
  clear hb2 hp2 hm2 hc2
  go_wp2_with fail
  refine (noughts_any3 w2).mono ?_
  rintro e w3 ⟨rfl, hr3, hb3⟩
  have H3 := Lib.hid (cp_prog H2.out hb3 0 1 _ 128 128 zs hz hr3 fun ad he _ => by injection he with he; subst he; exact Nat.le_refl _)
  clear hr3 hb3
  go_wp2_with fail
  refine H3.out.mono ?_
  rintro e w4 ⟨rfl, hc4⟩
  clear H3
  have hc4' : CP w w4 g k1 := hc4
  have H4 := Lib.hid hc4'
  clear hc4 hc4'
  rw [show (programS k0 0 1 zs).2 = 0 from HC.out.1]
  go_wp2_with fail
  refine (noughts_any3 w4).mono ?_
  rintro e w5 ⟨rfl, hr3, hb3⟩
  have H5 := Lib.hid (cp_prog H4.out hb3 0 0 _ 128 128 zs hz hr3 fun ad he _ => by injection he with he; subst he; exact Nat.le_refl _)
  clear hr3 hb3
  go_wp2_with fail
  refine H5.out.mono ?_
  rintro e w6 ⟨rfl, hc4⟩
  clear H5
  have hc4' : CP w w6 g k2 := hc4
  have H6 := Lib.hid hc4'
  clear hc4 hc4'
  rw [show (programS k1 0 0 zs).2 = 8 from HC.out.2.1]
  go_wp2_with fail
  refine (noughts_any3 w6).mono ?_
  rintro e w7 ⟨rfl, hr3, hb3⟩
  have H7 := Lib.hid (cp_prog H6.out hb3 0 2 _ 128 128 zs hz hr3 fun ad he _ => by injection he with he; subst he; exact Nat.le_refl _)
  clear hr3 hb3
  go_wp2_with fail
  refine H7.out.mono ?_
  rintro e w8 ⟨rfl, hc4⟩
  clear H7
  have hc4' : CP w w8 g k3 := hc4
  have H8 := Lib.hid hc4'
  clear hc4 hc4'
  rw [show (programS k2 0 2 zs).2 = 0 from HC.out.2.2.1]
  go_wp2_with fail
  refine (cp_erase H8.out 0).mono ?_
  rintro e w9 ⟨rfl, hc4⟩
  have hc4' : CP w w9 g k4 := hc4
  have H9 := Lib.hid hc4'
  clear hc4 hc4'
  rw [show (eraseS k3 0).2 = 0 from HC.out.2.2.2.1]
  have HH := Lib.hid (cp_hits H9.out (((Below.refl _ _).alloc (Nat.le_refl _) (.cells #[.int .u8 1] 5)).alloc (by rw [alloc_sz]; exact Nat.le_succ _) (.cells #[.int .i64 0, .bool false, .slice (some ⟨w9.heap.size, 0, none⟩) 1 1] 36)) _ 1 1 _ (hits_lit w9) rfl (by decide) (by decide))
  go_wp2_with fail
  refine HH.out.mono ?_
  rintro e w10 ⟨rfl, hc4⟩
  clear HH
  have hc4' : CP w w10 g k5 := hc4
  have H10 := Lib.hid hc4'
  clear hc4 hc4'
  rw [show (hitsS k4 [⟨0, false, [1]⟩]).2 = 0 from HC.out.2.2.2.2.1]
  go_wp2_with fail
  refine (noughts_any3 w10).mono ?_
  rintro e w11 ⟨rfl, hr3, hb3⟩
  have H11 := Lib.hid (cp_prog H10.out hb3 0 0 _ 128 128 zs hz hr3 fun ad he _ => by injection he with he; subst he; exact Nat.le_refl _)
  clear hr3 hb3
  go_wp2_with fail
  refine H11.out.mono ?_
  rintro e w12 ⟨rfl, hc4⟩
  clear H11
  have hc4' : CP w w12 g k6 := hc4
  have H12 := Lib.hid hc4'
  clear hc4 hc4'
  rw [show (programS k5 0 0 zs).2 = 10 from HC.out.2.2.2.2.2.1]
  go_wp2_with fail
  refine (cp_power H12.out).mono ?_
  rintro e w13 ⟨g2, rfl, hc4⟩
  have H13 := Lib.hid hc4
  clear hc4
  go_wp2_with fail
  refine (cp_read H13.out 0 0).mono ?_
  rintro e w14 ⟨v, rfl, ho, hc4⟩
  rw [show readS (powerS k6) 0 0 = (List.replicate 128 254, 0) from HC.out.2.2.2.2.2.2] at ho ⊢
  obtain ⟨gv, full, rfl, hg, hrow, htk, hm⟩ := own_some ho (by decide)
  have c0 : w14.cell? ⟨gv, 0, none⟩ = some (.int .u8 254) := hrow.cell (j := 0) (b := 254) (taken_get htk rfl)
  have c127 : w14.cell? ⟨gv, 127, none⟩ = some (.int .u8 254) := hrow.cell (j := 127) (b := 254) (taken_get htk rfl)
  have H14 := Lib.hid hc4.bel
  have hfl : 128 ≤ full.length := OwnB.len (xs := List.replicate 128 254) (g := gv) htk
  generalize full.length = fl at hm hfl
  clear ho hc4 hrow htk
  rw [show (List.replicate 128 (254 : UInt8)).length = 128 from rfl]
  go_wp2_with fail
  go_ret
  exact ⟨rfl, H14.out⟩
end Go.Proofs.Ytlcdabmclcfagaa
