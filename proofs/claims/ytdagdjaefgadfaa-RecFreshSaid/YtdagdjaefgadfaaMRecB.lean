import Derived.Test.YtdagdjaefgadfaaMPlain
import Derived.Test.YtdagdjaefgadfaaKeyPM
import Derived.Test.YtdagdjaefgadfaaConcatM
set_option linter.unusedVariables false
set_option linter.unusedSimpArgs false
/- Layer 11: contracts of change, body. -/
namespace Go.Proofs.Ytdagdjaefgadfaa
open Go.RowKit

def ChangeEnd (w : World) (r : List UInt8 × Bool) (e : Ending) (w' : World) : Prop :=
  ∃ v, e = .returned (.tuple #[v, .bool r.2]) ∧ OwnB 5 w' w.heap.size v r.1 ∧ Below w.heap.size w w'

/-- Two or three slices laid as a literal. -/
theorem lit2_cells (w : World) (e : TypeId) (A B : Option Addr) (a b : List UInt8) (c d : Nat) (ha : RV w A (bv a)) (hb : RV w B (bv b)) :
    ∀ j l, [a, b][j]? = some l → ∃ A' d', (w.alloc (.cells #[.slice A a.length c, .slice B b.length d] e)).cell? ⟨w.heap.size, j, none⟩ = some (.slice A' l.length d') ∧ RV (w.alloc (.cells #[.slice A a.length c, .slice B b.length d] e)) A' (bv l) := by
  have hk := Blk.new w e #[.slice A a.length c, .slice B b.length d]
  intro j l hl
  match j, hl with
  | 0, hl => cases hl; exact ⟨A, c, hk.cell 0, ha.alloc _⟩
  | 1, hl => cases hl; exact ⟨B, d, hk.cell 1, hb.alloc _⟩
theorem lit3_cells (w : World) (e : TypeId) (A B C : Option Addr) (a b g : List UInt8) (c d f : Nat) (ha : RV w A (bv a)) (hb : RV w B (bv b)) (hg : RV w C (bv g)) :
    ∀ j l, [a, b, g][j]? = some l → ∃ A' d', (w.alloc (.cells #[.slice A a.length c, .slice B b.length d, .slice C g.length f] e)).cell? ⟨w.heap.size, j, none⟩ = some (.slice A' l.length d') ∧ RV (w.alloc (.cells #[.slice A a.length c, .slice B b.length d, .slice C g.length f] e)) A' (bv l) := by
  have hk := Blk.new w e #[.slice A a.length c, .slice B b.length d, .slice C g.length f]
  intro j l hl
  match j, hl with
  | 0, hl => cases hl; exact ⟨A, c, hk.cell 0, ha.alloc _⟩
  | 1, hl => cases hl; exact ⟨B, d, hk.cell 1, hb.alloc _⟩
  | 2, hl => cases hl; exact ⟨C, f, hk.cell 2, hg.alloc _⟩

set_option maxRecDepth 100000 in
set_option maxHeartbeats 1000000 in
theorem change_any (w : World) (k : Ky) (hs : k.name.size ≤ maxLen) (A : Option Addr) (d : Nat) (l : List UInt8) (hr : RV w A (bv l)) (hl : l.length ≤ maxLen) (gone : Bool) :
    Calls Try.prog 54 #[.agg #[.int .i64 k.ino, .int .u8 (k.what.toNat : Int), .string k.name, .int .i64 k.chunk, .slice A l.length d, .bool gone]] w (ChangeEnd w (changeS ⟨k, l, gone⟩)) := by
  have hC := fun w => putKey_any w k hs
  have HC := Lib.hid hC
  clear hC
  obtain ⟨i, a, s, c⟩ := k
  unfold Ky.val at HC
  dsimp only at HC hs ⊢
  have hblk := Blk.new w 41 #[.int .i64 i, .int .u8 (a.toNat : Int), .string s, .int .i64 c, .slice A l.length d, .bool gone]
  have HB := Lib.hid (And.intro hblk hr)
  clear hblk hr
  unfold maxLen at hl
  by_cases hm : mayK ⟨i, a, s, c⟩
  · have hpk : putKeyS ⟨i, a, s, c⟩ = (keyB ⟨i, a, s, c⟩, 0) := if_pos hm
    rw [hpk] at HC
    have hkl := keyB_length hm
    by_cases hv : valOk ⟨⟨i, a, s, c⟩, l, gone⟩
    · have hch : changeS ⟨⟨i, a, s, c⟩, l, gone⟩ = (chgB ⟨⟨i, a, s, c⟩, l, gone⟩, true) := if_pos ⟨hm, hv⟩
      rw [hch]
      unfold chgB
      dsimp only
      generalize keyB ⟨i, a, s, c⟩ = kb at *
      cases gone with
      | true =>
        have h0 : l.length = 0 := hv
        obtain rfl : l = [] := List.eq_nil_of_length_eq_zero h0
        rw [if_pos rfl]
        simp only [List.length_nil] at HB ⊢
        clear hm hch hpk hv h0 hl
        go_enter Try.func54, Try.ntmps54
        go_wp2_with (go_at_call 63; refine (HC.out _).mono ?_; rintro e w1 ⟨v1, rfl, ho1, hb1⟩; obtain ⟨A1, c1, rfl, hrv1, _, _, _⟩ := ho1.slice; have HV := Lib.hid hrv1; clear hrv1; have k0 := HB.out.1.below hb1 HB.out.1.lt; have c4 := k0.cell 4; have c5 := k0.cell 5; simp at c4 c5; have H1 := Lib.hid (And.intro ho1 (And.intro (below_new hb1) (HB.out.2.below (below_new hb1)))); clear hb1 ho1 k0)
        have hL := lit2_cells (w1.alloc (.cells #[.int .u8 0] 5)) 22 (some ⟨w1.heap.size, 0, none⟩) A1 [0] kb 1 c1 (rv_lit1 w1 5 (b := 0) rfl) (HV.out.alloc _)
        rw [alloc_size] at hL
        have HL := Lib.hid hL
        clear hL
        refine (join_any ((w1.alloc (.cells #[.int .u8 0] 5)).alloc (.cells #[.slice (some ⟨w1.heap.size, 0, none⟩) 1 1, .slice A1 kb.length c1] 22)) (w1.heap.size + 1) 2 [[0], kb] 2 rfl (by omega) (by rw [alloc_size, alloc_size]; omega) (by simp; omega) HL.out).mono ?_
        rintro e w2 ⟨v2, rfl, ho2, hb2⟩
        have H2 := Lib.hid (And.intro ho2 (below_new (below_new hb2)))
        clear ho2 hb2
        go_wp2_with fail
        go_ret2
        refine ⟨_, rfl, ?_, below_then H1.out.2.1 H1.out.2.1.size H2.out.2⟩
        have ho := H2.out.1.lower (b := w.heap.size) (by have := H1.out.2.1.size; simp; omega)
        simpa using ho
      | false =>
        have h0 : 1 ≤ l.length ∧ l.length ≤ 255 := hv
        obtain ⟨h0, h1⟩ := h0
        rw [if_neg (by decide)]
        clear hm hch hpk hv hl
        obtain ⟨ll, hll⟩ : ∃ ll, l.length = ll := ⟨_, rfl⟩
        have HLL := Lib.hid hll
        rw [hll] at h0 h1 HB ⊢
        clear hll
        have g0 : ¬ (ll : Int) < 1 := by omega
        have g1 : ¬ 255 < (ll : Int) := by omega
        go_enter Try.func54, Try.ntmps54
        go_wp2_with (go_at_call 63; refine (HC.out _).mono ?_; rintro e w1 ⟨v1, rfl, ho1, hb1⟩; obtain ⟨A1, c1, rfl, hrv1, _, _, _⟩ := ho1.slice; have HV := Lib.hid hrv1; clear hrv1; have k0 := HB.out.1.below hb1 HB.out.1.lt; have c4 := k0.cell 4; have c5 := k0.cell 5; simp at c4 c5; have H1 := Lib.hid (And.intro ho1 (And.intro (below_new hb1) (HB.out.2.below (below_new hb1)))); clear hb1 ho1 k0)
        refine (putRow_at w1 A ll d l HLL.out H1.out.2.2 h1).mono ?_
        rintro e w2 ⟨v2, rfl, ho2, hb2⟩
        obtain ⟨A2, c2, rfl, hrv2, _, _, _⟩ := ho2.slice
        have hL := lit3_cells (w2.alloc (.cells #[.int .u8 1] 5)) 22 (some ⟨w2.heap.size, 0, none⟩) A1 A2 [1] kb (UInt8.ofNat ll :: l) 1 c1 c2 (rv_lit1 w2 5 (b := 1) rfl) ((HV.out.below hb2).alloc _) (hrv2.alloc _)
        rw [alloc_size] at hL
        have hlen2 : (UInt8.ofNat ll :: l).length = ll + 1 := by rw [List.length_cons, HLL.out]
        rw [hlen2] at hL ⊢
        have hres : [[1], kb, UInt8.ofNat ll :: l].flatten = 1 :: (kb ++ UInt8.ofNat ll :: l) := by simp
        have HL := Lib.hid (And.intro hL (And.intro hlen2 (And.intro hres (below_then H1.out.2.1 H1.out.2.1.size hb2))))
        clear hL hrv2 ho2 hb2 hlen2 hres
        generalize hR : UInt8.ofNat ll :: l = R at *
        clear hR
        go_wp2_with fail
        refine (join_any ((w2.alloc (.cells #[.int .u8 1] 5)).alloc (.cells #[.slice (some ⟨w2.heap.size, 0, none⟩) 1 1, .slice A1 kb.length c1, .slice A2 (ll + 1) c2] 22)) (w2.heap.size + 1) 3 [[1], kb, R] 3 rfl (by omega) (by rw [alloc_size, alloc_size]; omega) (by simp [HL.out.2.1]; omega) HL.out.1).mono ?_
        rintro e w3 ⟨v3, rfl, ho3, hb3⟩
        rw [HL.out.2.2.1] at ho3
        have H2 := Lib.hid (And.intro ho3 (below_new (below_new hb3)))
        clear ho3 hb3
        go_wp2_with fail
        go_ret2
        refine ⟨_, rfl, ?_, below_then HL.out.2.2.2 HL.out.2.2.2.size H2.out.2⟩
        exact H2.out.1.lower (by have := HL.out.2.2.2.size; simp; omega)
    · have hch : changeS ⟨⟨i, a, s, c⟩, l, gone⟩ = ([], false) := if_neg (fun h => hv h.2)
      rw [hch]
      cases gone with
      | true =>
        have h0 : 0 < (l.length : Int) := by
          have : ¬ l.length = 0 := hv
          omega
        clear hm hch hpk hv
        go_enter Try.func54, Try.ntmps54
        go_wp2_with (go_at_call 63; refine (HC.out _).mono ?_; rintro e w1 ⟨v1, rfl, ho1, hb1⟩; obtain ⟨A1, c1, rfl, hrv1, _, _, _⟩ := ho1.slice; have HV := Lib.hid hrv1; clear hrv1; have k0 := HB.out.1.below hb1 HB.out.1.lt; have c4 := k0.cell 4; have c5 := k0.cell 5; simp at c4 c5; have H1 := Lib.hid (And.intro ho1 (And.intro (below_new hb1) (HB.out.2.below (below_new hb1)))); clear hb1 ho1 k0)
        go_ret2
        exact ⟨_, rfl, OwnB.nil _ _ _, H1.out.2.1⟩
      | false =>
        have h0 : l.length < 1 ∨ (1 ≤ l.length ∧ 255 < l.length) := by
          have : ¬ (1 ≤ l.length ∧ l.length ≤ 255) := hv
          omega
        clear hm hch hpk hv
        rcases h0 with h0 | ⟨h0, h1⟩
        all_goals
          go_enter Try.func54, Try.ntmps54
          go_wp2_with (go_at_call 63; refine (HC.out _).mono ?_; rintro e w1 ⟨v1, rfl, ho1, hb1⟩; obtain ⟨A1, c1, rfl, hrv1, _, _, _⟩ := ho1.slice; have HV := Lib.hid hrv1; clear hrv1; have k0 := HB.out.1.below hb1 HB.out.1.lt; have c4 := k0.cell 4; have c5 := k0.cell 5; simp at c4 c5; have H1 := Lib.hid (And.intro ho1 (And.intro (below_new hb1) (HB.out.2.below (below_new hb1)))); clear hb1 ho1 k0)
          go_ret2
          exact ⟨_, rfl, OwnB.nil _ _ _, H1.out.2.1⟩
  · have hch : changeS ⟨⟨i, a, s, c⟩, l, gone⟩ = ([], false) := if_neg (fun h => hm h.1)
    have hpk : putKeyS ⟨i, a, s, c⟩ = ([], 2) := if_neg hm
    rw [hch]
    rw [hpk] at HC
    clear hm hch hpk
    go_enter Try.func54, Try.ntmps54
    go_wp2_with (go_at_call 63; refine (HC.out _).mono ?_; rintro e w1 ⟨v1, rfl, ho1, hb1⟩; have H1 := Lib.hid (below_new hb1); clear hb1 ho1)
    go_ret2
    exact ⟨_, rfl, OwnB.nil _ _ _, H1.out⟩
end Go.Proofs.Ytdagdjaefgadfaa

/- Layer 11: contract of body. -/
namespace Go.Proofs.Ytdagdjaefgadfaa
open Go.RowKit

set_option maxRecDepth 100000 in
set_option maxHeartbeats 2000000 in
theorem body_ok (w : World) (A : Option Addr) (n d : Nat) (cs : List Chg) (h : ChgsIn w A n cs) (h1 : 1 ≤ n) (h2 : n ≤ 255) :
    Calls Try.prog 35 #[.slice A n d] w (ChangeEnd w (bodyS' cs)) := by
  have hn := h.1
  have H := Lib.hid (And.intro h hn)
  clear h hn
  go_enter Try.func35, Try.ntmps35
  go_wp2_with fail
  go_loopg [4, 23] n (fun k v i wr => ∃ j : Nat, j + k = n ∧ i = .int .i64 j ∧ OwnB 5 wr w.heap.size v (UInt8.ofNat n :: (cs.take j).flatMap chgB) ∧ Below w.heap.size w wr ∧ ∀ c ∈ cs.take j, chgOk c)
  case atStart => exact ⟨0, by omega, rfl, own_lit1 w _ n (by omega), (Below.refl _ _).alloc (Nat.le_refl _) _, fun c hc => by simp at hc⟩
  case round =>
    obtain ⟨j, hj, rfl, ho, hb, hall⟩ := hrel
    have HX := Lib.hid (And.intro hj (And.intro ho (And.intro hb hall)))
    clear hj ho hb hall
    by_cases hlt : j < n
    · obtain ⟨c, hc⟩ : ∃ c, cs[j]? = some c := ⟨_, List.getElem?_eq_getElem (by have := H.out.2; omega)⟩
      obtain ⟨hok, ad, B, dd, hA, hrv, hl1, hl2, hblk, c0, c1, c2, c3, c4, c5⟩ := H.out.1.at_ hc
      subst hA
      have up : ∀ {p : Addr} {u : Value}, w.cell? p = some u → p.block = (ad.add (j * 6)).block → wr.cell? p = some u := fun hu hp => (World.cell?_of_block (HX.out.2.2.1.block _ (by rw [hp]; exact hblk))).trans hu
      have d0 := up c0 rfl
      have d1 := up c1 rfl
      have d2 := up c2 rfl
      have d3 := up c3 rfl
      have d4 := up c4 rfl
      have d5 := up c5 rfl
      clear c0 c1 c2 c3 c4 c5 up
      obtain ⟨⟨i, a, s, ch⟩, l, gn⟩ := c
      dsimp only at d0 d1 d2 d3 d4 d5 hrv hl1 hok
      have HC := Lib.hid (And.intro hc (And.intro hrv (And.intro hl1 (And.intro hl2 hok))))
      clear hc hrv hok
      go_wp2_with fail
      refine (change_any _ ⟨i, a, s, ch⟩ HC.out.2.2.2.2 B dd l ((HC.out.2.1.below HX.out.2.2.1).alloc _) (Nat.le_trans HC.out.2.2.1 HC.out.2.2.2.1) gn).mono ?_
      rintro e w1 ⟨v1, rfl, ho1, hb1⟩
      have hbb := below_then HX.out.2.2.1 HX.out.2.2.1.size (below_new hb1)
      by_cases hch : chgOk ⟨⟨i, a, s, ch⟩, l, gn⟩
      · have hcs : changeS ⟨⟨i, a, s, ch⟩, l, gn⟩ = (chgB ⟨⟨i, a, s, ch⟩, l, gn⟩, true) := if_pos hch
        rw [hcs] at ho1 ⊢
        dsimp only at ho1 ⊢
        have hft : (cs.take (j + 1)).flatMap chgB = (cs.take j).flatMap chgB ++ chgB ⟨⟨i, a, s, ch⟩, l, gn⟩ := by
          rw [List.take_add_one, HC.out.1, List.flatMap_append]
          simp
        have hal : ∀ c ∈ cs.take (j + 1), chgOk c := by
          intro c hc
          rw [List.take_add_one, HC.out.1] at hc
          rcases List.mem_append.1 hc with hc | hc
          · exact HX.out.2.2.2 c hc
          · simp at hc
            rw [hc]
            exact hch
        have hle := flat_chg_le (cs.take j) HX.out.2.2.2
        rw [List.length_take] at hle
        have hle2 := chgB_length hch
        obtain ⟨A1, e1, rfl, hrv1, _, _, _⟩ := ho1.slice
        have hxs : OwnB 5 w1 w.heap.size u4 (UInt8.ofNat n :: (cs.take j).flatMap chgB) := (HX.out.2.1.below ((Below.refl _ _).alloc (Nat.le_refl _) _)).below hb1
        have hxl : (UInt8.ofNat n :: (cs.take j).flatMap chgB).length ≤ 70000 := by rw [List.length_cons]; omega
        have hft' : UInt8.ofNat n :: (cs.take (j + 1)).flatMap chgB = (UInt8.ofNat n :: (cs.take j).flatMap chgB) ++ chgB ⟨⟨i, a, s, ch⟩, l, gn⟩ := by rw [hft]; rfl
        clear hft hle hch hcs ho1 hb1
        generalize (UInt8.ofNat n :: (cs.take j).flatMap chgB) = X at *
        generalize chgB ⟨⟨i, a, s, ch⟩, l, gn⟩ = Y at *
        have H1 := Lib.hid (And.intro hxs (And.intro hrv1 (And.intro hft' (And.intro hal hbb))))
        clear hxs hrv1 hft' hal hbb
        go_wp2_with (at_builtin; refine wpList_appB _ rfl _ _ 22 rfl w.heap.size 5 Try.underlying22 u8info u4 X rfl H1.out.1 A1 Y.length e1 Y rfl rfl H1.out.2.1 ?_ ?_ ?_)
        · omega
        · exact H1.out.2.2.2.2.size
        intro v2 w2 ho2 hg2 hv2
        have hb2 := H1.out.2.2.2.2.grown hg2 H1.out.2.2.2.2.size fun k e => (H1.out.1.blk e).1
        have H2 := Lib.hid (And.intro ho2 hb2)
        clear ho2 hg2 hv2 hb2
        go_wp2_with fail
        go_roundg (n - (j + 1))
        case measure => have := HX.out.1; omega
        case rel => exact ⟨j + 1, by have := HX.out.1; omega, by go_num, by rw [H1.out.2.2.1]; exact H2.out.1, H2.out.2, H1.out.2.2.2.1⟩
      · have hcs : changeS ⟨⟨i, a, s, ch⟩, l, gn⟩ = ([], false) := if_neg hch
        have hbd : bodyS' cs = ([], false) := if_neg fun h => hch (h.2.2 _ (List.mem_of_getElem? HC.out.1))
        rw [hcs] at ho1 ⊢
        dsimp only at ho1 ⊢
        have H1 := Lib.hid (And.intro hbd hbb)
        clear hbd hbb hcs hch hb1 ho1
        go_wp2_with fail
        go_ret2
        rw [H1.out.1]
        exact ⟨_, rfl, OwnB.nil _ _ _, H1.out.2⟩
    · obtain rfl : j = n := by have := HX.out.1; omega
      have hbd : bodyS' cs = (bodyB cs, true) := if_pos ⟨by rw [H.out.2]; exact h1, by rw [H.out.2]; exact h2, by
        have := HX.out.2.2.2
        rwa [List.take_of_length_le (by rw [H.out.2]; exact Nat.le_refl _)] at this⟩
      have ho := HX.out.2.1
      rw [List.take_of_length_le (by rw [H.out.2]; exact Nat.le_refl _)] at ho
      have hbb : bodyB cs = UInt8.ofNat j :: cs.flatMap chgB := by unfold bodyB; rw [H.out.2]
      rw [← hbb] at ho
      have H1 := Lib.hid (And.intro hbd ho)
      clear hbd ho hbb
      go_wp2_with fail
      go_ret2
      rw [H1.out.1]
      exact ⟨_, rfl, H1.out.2, HX.out.2.2.1⟩
theorem recBody_any (w : World) (A : Option Addr) (n d : Nat) (cs : List Chg) (h : ChgsIn w A n cs) (hn : n ≤ maxLen) :
    Calls Try.prog 35 #[.slice A n d] w (ChangeEnd w (bodyS' cs)) := by
  by_cases h1 : 1 ≤ n ∧ n ≤ 255
  · exact body_ok w A n d cs h h1.1 h1.2
  · have hbd : bodyS' cs = ([], false) := if_neg fun hh => h1 (by have h2 := hh.1; have h3 := hh.2.1; rw [h.1] at h2 h3; exact ⟨h2, h3⟩)
    rw [hbd]
    unfold maxLen at hn
    have h0 : n < 1 ∨ (1 ≤ n ∧ 255 < n) := by omega
    clear h hbd h1
    rcases h0 with h0 | ⟨h0, h1⟩
    all_goals
      go_enter Try.func35, Try.ntmps35
      go_wp2_with fail
      go_ret2
      exact ⟨_, rfl, OwnB.nil _ _ _, Below.refl _ _⟩
end Go.Proofs.Ytdagdjaefgadfaa
